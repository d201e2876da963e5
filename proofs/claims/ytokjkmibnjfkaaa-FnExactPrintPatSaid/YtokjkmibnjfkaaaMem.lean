/- Memory that is only read: a part of the heap that stays as it is, and slices in it. -/
import Derived.WalkKit
import Derived.Lib.Hide
namespace Go.Proofs.Ytokjkmibnjfkaaa
open Go.RowKit

/-- a part of a heap. -/
abbrev Hp := Nat → Option Obj
/-- the world has that part. -/
def Sub (h : Hp) (w : World) : Prop := ∀ b o, h b = some o → w.heap[b]? = some o
def hp (w : World) : Hp := fun b => w.heap[b]?
def HLe (h h' : Hp) : Prop := ∀ b o, h b = some o → h' b = some o
theorem HLe.refl (h : Hp) : HLe h h := fun _ _ e => e
theorem HLe.trans {a b c : Hp} (x : HLe a b) (y : HLe b c) : HLe a c := fun _ _ e => y _ _ (x _ _ e)
theorem Sub.self (w : World) : Sub (hp w) w := fun _ _ h => h
theorem Sub.le {h h' : Hp} {w : World} (s : Sub h' w) (l : HLe h h') : Sub h w := fun b o e => s b o (l b o e)
theorem Sub.hle {h : Hp} {w : World} (s : Sub h w) : HLe h (hp w) := s
theorem Sub.lt {h : Hp} {w : World} (s : Sub h w) {b : Nat} {o : Obj} (e : h b = some o) : b < w.heap.size := by
  have := s b o e
  rcases Nat.lt_or_ge b w.heap.size with hl | hl
  · exact hl
  · rw [Array.getElem?_eq_none hl] at this; cases this
theorem Sub.below {h : Hp} {w w' : World} (s : Sub h w) (k : Below w.heap.size w w') : Sub h w' := fun b o e => by
  rw [k.block b (s.lt e)]; exact s b o e
theorem Sub.alloc {h : Hp} {w : World} (s : Sub h w) (x : Obj) : Sub h (w.alloc x) := s.below ((Below.refl _ _).alloc (Nat.le_refl _) _)
theorem Sub.drew {h : Hp} {w : World} (s : Sub h w) : Sub h w.drew := s
theorem Sub.setCell {h : Hp} {w : World} (s : Sub h w) {p : Addr} (hp : h p.block = none) (v : Value) : Sub h (w.setCell p v) := fun b o e => by
  have : b ≠ p.block := by intro hb; subst hb; rw [hp] at e; cases e
  rw [Below.heap_setCell _ _ _ _ this]; exact s b o e
theorem Sub.none {h : Hp} {w : World} (s : Sub h w) {b : Nat} (hb : w.heap.size ≤ b) : h b = none := by
  cases e : h b with
  | none => rfl
  | some o => have := s.lt e; omega

/-- cells of one block from a place on. -/
def CellsAt (h : Hp) (b off : Nat) (vs : List Value) : Prop :=
  ∃ c e fr, h b = some (.cells c e fr) ∧ ∀ i, i < vs.length → c[off + i]? = vs[i]?
theorem CellsAt.le {h h' : Hp} {b off : Nat} {vs : List Value} (x : CellsAt h b off vs) (l : HLe h h') : CellsAt h' b off vs :=
  let ⟨c, e, fr, hb, hc⟩ := x; ⟨c, e, fr, l _ _ hb, hc⟩
theorem CellsAt.cell {h : Hp} {w : World} {b off : Nat} {vs : List Value} (x : CellsAt h b off vs) (s : Sub h w) {i : Nat} (hi : i < vs.length) :
    w.cell? ⟨b, off + i, none⟩ = some vs[i] := by
  obtain ⟨c, e, fr, hb, hc⟩ := x
  have := s _ _ hb
  simp only [World.cell?, this]
  rw [if_neg (by simp), hc i hi, List.getElem?_eq_getElem hi]
theorem CellsAt.lt {h : Hp} {w : World} {b off : Nat} {vs : List Value} (x : CellsAt h b off vs) (s : Sub h w) : b < w.heap.size :=
  let ⟨_, _, _, hb, _⟩ := x; s.lt hb
theorem CellsAt.sub {h : Hp} {b off : Nat} {vs : List Value} (x : CellsAt h b off vs) (k n : Nat) : CellsAt h b (off + k) ((vs.drop k).take n) := by
  obtain ⟨c, e, fr, hb, hc⟩ := x
  refine ⟨c, e, fr, hb, fun i hi => ?_⟩
  have h1 : i < n := by simp at hi; omega
  have h2 : k + i < vs.length := by simp at hi; omega
  rw [List.getElem?_take_of_lt h1, List.getElem?_drop, Nat.add_assoc]
  exact hc (k + i) h2
/-- a slice of one-cell elements that reads as vs. -/
def Sl (h : Hp) (v : Value) (vs : List Value) : Prop :=
  ∃ a c, v = .slice a vs.length c ∧ vs.length ≤ c ∧ c ≤ maxLen ∧ (vs = [] ∨ ∃ b off, a = some ⟨b, off, none⟩ ∧ CellsAt h b off vs)
theorem Sl.le {h h' : Hp} {v : Value} {vs : List Value} (x : Sl h v vs) (l : HLe h h') : Sl h' v vs :=
  let ⟨a, c, e, h1, h2, r⟩ := x; ⟨a, c, e, h1, h2, r.imp id fun ⟨b, off, ea, hc⟩ => ⟨b, off, ea, hc.le l⟩⟩
theorem addr_add (b off j : Nat) : (⟨b, off, none⟩ : Addr).add j = ⟨b, off + j, none⟩ := by
  unfold Addr.add
  split <;> simp_all
/-- what was there, and all that has come since block B. -/
def ext (h : Hp) (B : Nat) (w : World) : Hp := fun b => if b < B then h b else w.heap[b]?
theorem ext_new {h : Hp} {B b : Nat} {w : World} (hb : B ≤ b) : ext h B w b = w.heap[b]? := by unfold ext; rw [if_neg (by omega)]
theorem ext_old {h : Hp} {B b : Nat} {w : World} (hb : b < B) : ext h B w b = h b := by unfold ext; rw [if_pos hb]
/-- h1 is live in w1: it has grown out of h since block B. -/
structure Live (h : Hp) (B : Nat) (h1 : Hp) (w1 : World) : Prop where
  sub : Sub h1 w1
  old : ∀ b, b < B → h1 b = h b
  le : HLe h h1
theorem Live.start {h : Hp} {w : World} (s : Sub h w) : Live h w.heap.size h w := ⟨s, fun _ _ => rfl, HLe.refl h⟩
theorem Live.call {h h1 : Hp} {B : Nat} {w1 w2 : World} (l : Live h B h1 w1) (hb : Below w1.heap.size w1 w2) (hB : B ≤ w1.heap.size) : Live h B (ext h1 w1.heap.size w2) w2 := by
  have hle : HLe h1 (ext h1 w1.heap.size w2) := fun b o e => by rw [ext_old (l.sub.lt e)]; exact e
  refine ⟨fun b o e => ?_, fun b hb' => by rw [ext_old (by omega)]; exact l.old b hb', l.le.trans hle⟩
  unfold ext at e
  split at e
  · rename_i hlt; rw [hb.block b hlt]; exact l.sub b o e
  · exact e
theorem Live.below {h h1 : Hp} {B : Nat} {w1 w2 : World} (l : Live h B h1 w1) (hb : Below w1.heap.size w1 w2) : Live h B h1 w2 := ⟨l.sub.below hb, l.old, l.le⟩
theorem Live.alloc {h h1 : Hp} {B : Nat} {w1 : World} (l : Live h B h1 w1) (o : Obj) : Live h B h1 (w1.alloc o) := ⟨l.sub.alloc o, l.old, l.le⟩
theorem Live.drew {h h1 : Hp} {B : Nat} {w1 : World} (l : Live h B h1 w1) : Live h B h1 w1.drew := ⟨l.sub, l.old, l.le⟩
theorem Live.setCell {h h1 : Hp} {B : Nat} {w1 : World} (l : Live h B h1 w1) {p : Addr} (hp : h1 p.block = none) (v : Value) : Live h B h1 (w1.setCell p v) := ⟨l.sub.setCell hp v, l.old, l.le⟩
theorem Live.out {h h1 : Hp} {B : Nat} {w1 : World} (l : Live h B h1 w1) : HLe h1 (ext h B w1) := fun b o e => by
  by_cases hb : b < B
  · rw [ext_old hb, ← l.old b hb]; exact e
  · rw [ext_new (by omega)]; exact l.sub b o e
theorem ext_le {h : Hp} {B : Nat} {w w' : World} (s : Sub h w) (hB : w.heap.size ≤ B) : HLe h (ext h B w') := fun b o e => by
  rw [ext_old (by have := s.lt e; omega)]; exact e
theorem new_cell0 (w : World) (x : Value) (t : TypeId) : (w.alloc (.cells #[x] t)).cell? ⟨w.heap.size, 0, none⟩ = some x := by
  have : (w.alloc (.cells #[x] t)).heap[w.heap.size]? = some (.cells #[x] t) := by show (w.heap.push _)[w.heap.size]? = _; simp
  simp only [World.cell?, this]
  rfl
/-- behind a call that makes memory: old cells and marks read as before (two rules for the walk). -/
theorem bcell {W w1 : World} (hb : Below W.heap.size W w1) : (∀ b o, b < W.heap.size → w1.cell? ⟨b, o, none⟩ = W.cell? ⟨b, o, none⟩) ∧ (∀ b o, b < W.heap.size → w1.frozen? ⟨b, o, none⟩ = W.frozen? ⟨b, o, none⟩) :=
  ⟨fun b o h => hb.cell (p := ⟨b, o, none⟩) h, fun b o h => hb.frozen (p := ⟨b, o, none⟩) h⟩
theorem below_undrew {w w' : World} (h : Below w.drew.heap.size w.drew w') : Below w.heap.size w w' := ⟨h.os, h.tape, h.output, h.size, h.block⟩
theorem below_chain {B : Nat} {a b c : World} (h : Below b.heap.size b c) (k : Below B a b) (l : B ≤ b.heap.size) : Below B a c := k.trans (h.mono l)
theorem cell_kept {w wx : World} {a : Addr} {v : Value} (hb : Below w.heap.size w wx) (h : w.cell? a = some v) : wx.cell? a = some v :=
  (hb.cell (World.block_lt_of_cell? _ _ h)).trans h
end Go.Proofs.Ytokjkmibnjfkaaa
