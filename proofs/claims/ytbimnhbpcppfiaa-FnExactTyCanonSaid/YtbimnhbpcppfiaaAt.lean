/- Data with known blocks, kept while calls go on: for the laws whose answers hold memory. -/
import Derived.Test.YtbimnhbpcppfiaaGrow
import Derived.Deep.Draws
namespace Go.Proofs.Ytbimnhbpcppfiaa
set_option linter.unusedVariables false
open Go.RowKit
/-- what is said of data hangs on their own blocks alone. -/
def Loc (T : Hp → List Nat → Prop) : Prop := ∀ h h' bs, (∀ b ∈ bs, h' b = h b) → T h bs → T h' bs
structure At (T : Hp → List Nat → Prop) (lo hi : Nat) (w : World) (bs : List Nat) : Prop where
  t : T (hp w) bs
  nd : bs.Nodup
  rng : ∀ b ∈ bs, lo ≤ b ∧ b < hi
  top : hi ≤ w.heap.size
  loc : Loc T
theorem At.below {T : Hp → List Nat → Prop} {lo hi : Nat} {w w' : World} {bs : List Nat} (q : At T lo hi w bs) (hb : Below w.heap.size w w') : At T lo hi w' bs :=
  ⟨q.loc _ _ _ (fun b hm => hb.block b (by have := q.rng b hm; have := q.top; omega)) q.t, q.nd, q.rng, Nat.le_trans q.top hb.size, q.loc⟩
theorem At.alloc {T : Hp → List Nat → Prop} {lo hi : Nat} {w : World} {bs : List Nat} (q : At T lo hi w bs) (o : Obj) : At T lo hi (w.alloc o) bs := q.below ((Below.refl _ _).alloc (Nat.le_refl _) o)
theorem At.drewN {T : Hp → List Nat → Prop} {lo hi : Nat} {w : World} {bs : List Nat} (q : At T lo hi w bs) (n : Nat) : At T lo hi (w.drewN n) bs := ⟨q.t, q.nd, q.rng, q.top, q.loc⟩
theorem At.drew {T : Hp → List Nat → Prop} {lo hi : Nat} {w : World} {bs : List Nat} (q : At T lo hi w bs) : At T lo hi w.drew bs := ⟨q.t, q.nd, q.rng, q.top, q.loc⟩
theorem At.fr {T : Hp → List Nat → Prop} {lo hi : Nat} {w w' : World} {bs cs : List Nat} (q : At T lo hi w bs) (f : Fr cs w w') (hd : ∀ b ∈ cs, b < lo ∨ hi ≤ b) : At T lo hi w' bs :=
  ⟨q.loc _ _ _ (fun b hm => f.block b (by have := q.rng b hm; have := q.top; omega) (fun hc => by have := q.rng b hm; have := hd b hc; omega)) q.t, q.nd, q.rng, Nat.le_trans q.top f.size, q.loc⟩
theorem At.mk' {T : Hp → List Nat → Prop} {w w' : World} {bs : List Nat} (h : T (hp w') bs) (hn : bs.Nodup) (hr : ∀ b ∈ bs, w.heap.size ≤ b ∧ b < w'.heap.size) (hl : Loc T) : At T w.heap.size w'.heap.size w' bs := ⟨h, hn, hr, Nat.le_refl _, hl⟩
theorem cell_al {w : World} {p : Addr} {v : Value} (h : w.cell? p = some v) (o : Obj) : (w.alloc o).cell? p = some v := cell_kept ((Below.refl _ _).alloc (Nat.le_refl _) o) h
theorem cell_new (w : World) (cs : Array Value) (t : TypeId) (i : Nat) : (w.alloc (.cells cs t)).cell? ⟨w.heap.size, i, none⟩ = cs[i]? := by
  have : (w.alloc (.cells cs t)).heap[w.heap.size]? = some (.cells cs t) := by show (w.heap.push _)[w.heap.size]? = _; simp
  simp only [World.cell?, this]
  rw [if_neg (by simp)]
theorem cell_fr {bs : List Nat} {w w' : World} {p : Addr} {v : Value} (f : Fr bs w w') (h : w.cell? p = some v) (hn : p.block ∉ bs) : w'.cell? p = some v := by
  have hlt := World.block_lt_of_cell? _ _ h
  have := f.block p.block hlt hn
  simp only [World.cell?] at h ⊢
  rw [this]; exact h
theorem size_al (w : World) (o : Obj) : (w.alloc o).heap.size = w.heap.size + 1 := by simp
theorem below_over {B : Nat} {a b c : World} (h : Below b.heap.size b c) (k : Below B a b) (l : B ≤ b.heap.size) : Below B a c := k.trans (h.mono l)
theorem loc_own {α : Type} (e : TypeId) (k : Nat) (RX : Hp → List Value → α → List Nat → Prop) (v : Value) (xs : List α) (hR : ∀ h h' r x cs, (∀ b ∈ cs, h' b = h b) → RX h r x cs → RX h' r x cs) : Loc (fun h bs => OwnX e k RX h v xs bs) :=
  fun h h' bs hg q => OwnX.mono q hg fun r x cs hc => hR h h' r x cs (fun b hb => hg b (hc b hb))
end Go.Proofs.Ytbimnhbpcppfiaa
