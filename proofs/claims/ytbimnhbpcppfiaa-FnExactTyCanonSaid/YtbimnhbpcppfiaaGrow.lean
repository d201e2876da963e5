/- Appending where other own memory lies beside: only the slice's own block may change. -/
import Derived.Test.YtbimnhbpcppfiaaFoot
namespace Go.Proofs.Ytbimnhbpcppfiaa
set_option linter.unusedVariables false
open Go.RowKit
theorem own_fr {w w' : World} {B : Nat} {e : TypeId} {k n : Nat} {v : Value} {xs : List Value} {bs : List Nat} (h : Own w B e k v n xs) (f : Fr bs w w') (hn : ∀ b ∈ bs, v.ownBlock ≠ some b) : Own w' B e k v n xs := by
  obtain ⟨h1, h2⟩ := h
  refine ⟨h1, h2.imp id fun ⟨g, cap, cur, ev, hg, hh, r⟩ => ⟨g, cap, cur, ev, hg, ?_, r⟩⟩
  have hlt : g < w.heap.size := by
    rcases Nat.lt_or_ge g w.heap.size with hl | hl
    · exact hl
    · rw [Array.getElem?_eq_none hl] at hh; cases hh
  rw [f.block g hlt (fun hb => hn g hb (by rw [ev]; rfl))]; exact hh
/-- the block of an own slice. -/
theorem own_block {w : World} {B : Nat} {e : TypeId} {k n : Nat} {v : Value} {xs : List Value} (h : Own w B e k v n xs) {b : Nat} (hb : v.ownBlock = some b) : B ≤ b ∧ b < w.heap.size ∧ ∃ cur, w.heap[b]? = some (.cells cur e (0, 0)) := by
  obtain ⟨h1, ⟨rfl, h2⟩ | ⟨g, cap, cur, rfl, hg, hh, r⟩⟩ := h
  · cases hb
  · have hb' : some g = some b := hb
    injection hb' with hb'
    subst hb'
    refine ⟨hg, ?_, cur, hh⟩
    rcases Nat.lt_or_ge g w.heap.size with hl | hl
    · exact hl
    · rw [Array.getElem?_eq_none hl] at hh; cases hh
/-- slices of different elements lie in different blocks. -/
theorem own_apart {w : World} {B B' : Nat} {e e' : TypeId} {k k' n n' : Nat} {v v' : Value} {xs xs' : List Value} (h : Own w B e k v n xs) (h' : Own w B' e' k' v' n' xs') (hne : e ≠ e') : ∀ b ∈ v'.ownBlock.toList, v.ownBlock ≠ some b := by
  intro b hb hv
  have hb' : v'.ownBlock = some b := by simpa using hb
  obtain ⟨_, _, c1, q1⟩ := own_block h hv
  obtain ⟨_, _, c2, q2⟩ := own_block h' hb'
  rw [q1] at q2
  injection q2 with q2
  injection q2 with _ q2
  exact hne q2
/-- a variable's box: one value, or a struct's cells. -/
def BoxAt (w : World) (b : Nat) (cs : Array Value) (t : TypeId) : Prop := w.heap[b]? = some (.cells cs t (0, 0))
theorem BoxAt.lt {w : World} {b : Nat} {cs : Array Value} {t : TypeId} (h : BoxAt w b cs t) : b < w.heap.size := by
  rcases Nat.lt_or_ge b w.heap.size with hl | hl
  · exact hl
  · unfold BoxAt at h; rw [Array.getElem?_eq_none hl] at h; cases h
theorem BoxAt.cell {w : World} {b : Nat} {cs : Array Value} {t : TypeId} (h : BoxAt w b cs t) (i : Nat) : w.cell? ⟨b, i, none⟩ = cs[i]? := by
  unfold BoxAt at h
  simp only [World.cell?, h]
  rw [if_neg (by simp)]
theorem BoxAt.frozen {w : World} {b : Nat} {cs : Array Value} {t : TypeId} (h : BoxAt w b cs t) (i : Nat) : w.frozen? ⟨b, i, none⟩ = false := by
  unfold BoxAt at h
  simp [World.frozen?, h]
theorem BoxAt.fr {w w' : World} {b : Nat} {cs : Array Value} {t : TypeId} {bs : List Nat} (h : BoxAt w b cs t) (f : Fr bs w w') (hn : b ∉ bs) : BoxAt w' b cs t := by
  unfold BoxAt; rw [f.block b h.lt hn]; exact h
theorem BoxAt.kept {w w' : World} {b : Nat} {cs : Array Value} {t : TypeId} {B : Nat} (h : BoxAt w b cs t) (f : Below B w w') (hB : b < B) : BoxAt w' b cs t := by
  unfold BoxAt; rw [f.block b hB]; exact h
theorem BoxAt.set {w : World} {b : Nat} {cs : Array Value} {t : TypeId} (h : BoxAt w b cs t) (i : Nat) (u : Value) : BoxAt (w.setCell ⟨b, i, none⟩ u) b (cs.setIfInBounds i u) t := by
  unfold BoxAt at h ⊢
  simp only [World.setCell, Array.getElem?_modify, if_true, h, Option.map_some]
  rw [if_neg (by simp)]
theorem BoxAt.apart {w : World} {B b : Nat} {e t : TypeId} {k n : Nat} {v : Value} {xs : List Value} {cs : Array Value} (q : BoxAt w b cs t) (h : Own w B e k v n xs) (hne : e ≠ t) : b ∉ v.ownBlock.toList := by
  intro hb
  obtain ⟨_, _, c1, q1⟩ := own_block h (by simpa using hb : v.ownBlock = some b)
  unfold BoxAt at q
  rw [q] at q1
  injection q1 with q1
  injection q1 with _ q1
  exact hne q1.symm
theorem BoxAt.new (w : World) (cs : Array Value) (t : TypeId) : BoxAt (w.alloc (.cells cs t)) w.heap.size cs t := by
  show (w.heap.push _)[w.heap.size]? = _
  simp
theorem BoxAt.alloc {w : World} {b : Nat} {cs : Array Value} {t : TypeId} (h : BoxAt w b cs t) (o : Obj) : BoxAt (w.alloc o) b cs t := h.kept ((Below.refl w.heap.size w).alloc (Nat.le_refl _) _) h.lt
theorem BoxAt.setOther {w : World} {b : Nat} {cs : Array Value} {t : TypeId} (h : BoxAt w b cs t) {p : Addr} (hp : b ≠ p.block) (u : Value) : BoxAt (w.setCell p u) b cs t := by
  unfold BoxAt; rw [Below.heap_setCell _ _ _ _ hp]; exact h
theorem own_cell1 {w : World} {B : Nat} {e : TypeId} {n : Nat} {v : Value} {α : Type} {l : List α} {f : α → Value} (h : Own w B e 1 v n (l.map f)) {j : Nat} (hj : j < l.length) : ∃ g c, v = .slice (some ⟨g, 0, none⟩) n c ∧ g < w.heap.size ∧ ∀ i (hi : i < l.length), w.cell? ⟨g, i, none⟩ = some (f l[i]) := by
  have hl : l.length = n := by have := h.1; simpa using this
  obtain ⟨g, c, rfl⟩ := own_ne_nil h (by omega)
  obtain ⟨_, _, hxl, hcs, _, hg⟩ := own_parts h
  refine ⟨g, c, rfl, hg, fun i hi => ?_⟩
  rw [hcs i (by simpa using hi)]
  simp [hi]
theorem Fr.alloc {bs : List Nat} {a w : World} (h : Fr bs a w) (o : Obj) : Fr bs a (w.alloc o) := h.trans (Fr.of_below bs ((Below.refl w.heap.size w).alloc (Nat.le_refl _) _))
theorem own_fr_below {w w' : World} {B : Nat} {e : TypeId} {k n : Nat} {v : Value} {xs : List Value} (h : Own w B e k v n xs) (f : Fr v.ownBlock.toList w w') (hB : B ≤ w.heap.size) : Below B w w' :=
  f.below hB fun b hb => (own_block h (by simpa using hb)).1
section
variable {t e : TypeId} {z : Value} {k bytes : Nat} (ht : Try.prog.underlying t = some (.slice e)) (hinfo : (Try.prog.info? e).map (fun i => (i.zero, i.size, i.bytes)) = some (some z, k, bytes)) (hz : z.cells.size = k) (hk : 0 < k)
include ht hinfo hz hk
theorem app_at_fr {ops : Array Oper} {rest : List Oper} {o : Oper} {a : Act} {Q : Exit → Act → World → Prop} (w : World) (hgd : o.guard = none) (s x : Operand)
    (ho : o.op = .call { callee := .builtin .append, args := #[s, x], argTypes := #[t, t] })
    (B : Nat) (v : Value) (n : Nat) (xs : List Value) (hs : a.eval s = v) (hown : Own w B e k v n xs)
    (ad : Addr) (m c : Nat) (news : List Value) (hx : a.eval x = .slice (some ad) m c) (hl : news.length = m * k)
    (hnews : ∀ j u, news[j]? = some u → w.cell? (ad.add j) = some u) (h1 : ∀ u ∈ news, u.oneCell' = true)
    (h63 : n + m ≤ maxLen) (hroom : (n + m) * bytes ≤ 140737488355328) (hbase : B ≤ w.heap.size)
    (h : ∀ v' w', Own w' B e k v' (n + m) (xs ++ news) → Fr v.ownBlock.toList w w' → wpList Try.prog ops Q rest (a.put o.dst v') w') : wpList Try.prog ops Q (o :: rest) a w := by
  obtain ⟨i, hi, hz0, hz1, hz2⟩ := info_parts hinfo
  refine wpList_append_own w hgd s x t ho B e i z k bytes ht hi hz0 hz1 hz2 hz hk v n xs hs hown ad m c news hx hl hnews h1 h63 hroom hbase ?_
  intro v' w' h1 h2 _
  exact h v' w' h1 ⟨h2.os, h2.tape, h2.output, h2.size, fun b hb hn => h2.block b hb (fun e => hn (by simp [← e]))⟩
theorem app_lit_fr {ops : Array Oper} {rest : List Oper} {o : Oper} {a : Act} {Q : Exit → Act → World → Prop} (w : World) (g : Nat) (hg : w.heap.size = g) (hgd : o.guard = none) (s x : Operand)
    (ho : o.op = .call { callee := .builtin .append, args := #[s, x], argTypes := #[t, t] })
    (B : Nat) (v : Value) (n : Nat) (xs : List Value) (hs : a.eval s = v) (hown : Own w B e k v n xs)
    (m : Nat) (vals : List Value) (hx : a.eval x = .slice (some ⟨g, 0, none⟩) m m) (news : List Value) (hn : vals = news) (hl : news.length = m * k) (h1 : ∀ u ∈ news, u.oneCell' = true)
    (h63 : n + m ≤ maxLen) (hroom : (n + m) * bytes ≤ 140737488355328) (hbase : B ≤ w.heap.size)
    (h : ∀ v' w', Own w' B e k v' (n + m) (xs ++ news) → Fr v.ownBlock.toList w w' → wpList Try.prog ops Q rest (a.put o.dst v') w') :
    wpList Try.prog ops Q (o :: rest) a (w.alloc (.cells vals.toArray e)) := by
  subst hn hg
  refine app_at_fr ht hinfo hz hk _ hgd s x ho B v n xs hs (World.ownsRow.alloc hown _) ⟨w.heap.size, 0, none⟩ m m vals hx hl (fun j u hj => ?_) h1 h63 hroom ?_ ?_
  · rw [addr_add]
    simp only [World.cell?]
    have : (w.alloc (.cells vals.toArray e)).heap[w.heap.size]? = some (.cells vals.toArray e) := by show (w.heap.push _)[w.heap.size]? = _; simp
    rw [this]
    simpa using hj
  · have : (w.alloc (.cells vals.toArray e)).heap.size = w.heap.size + 1 := by simp
    omega
  · intro v' w' h1 h2
    exact h v' w' h1 (((Fr.refl _ w).alloc _).trans h2)
end
end Go.Proofs.Ytbimnhbpcppfiaa
