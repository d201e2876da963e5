import Derived.WalkKit
import Derived.Lib.Hide
/- The second engine, first part: plain data, who owns the memory they lie in, the frame. -/
namespace Go.Proofs.Ythkgncddilkmbaa
set_option linter.unusedVariables false
set_option linter.unusedSimpArgs false
open Go.RowKit
/-- plain data. Deep: a scalar, nil, frozen slices and pointers, owned slices and pointers. Shallow: a place in a box, in an array's row, the first rows of an array; a struct by value; several answers; a value under a guard. -/
inductive D where
  | s (v : Value)
  | nil
  | np
  | sl (k : Nat) (rows : List (List D))
  | pt (row : List D)
  | fn (f : FuncId) (caps : List D)
  | osl (e k : Nat) (rows : List (List D))
  | opt (row : List D)
  | bx (id off : Nat)
  | el (id k i off : Nat)
  | bs (id k n : Nat)
  | ag (xs : List D)
  | un
  | tup (xs : List D)
  | mb (c : Bool) (x : D)
instance : Inhabited D := ⟨.nil⟩
/-- who owns a block: the frame by a name, or a cell of another block. -/
inductive Pos where
  | root (id : Nat)
  | cell (b o : Nat)
  | ans (m l : Nat)
  | par (j l : Nat)
inductive Rep (S : Nat → Prop) (up : Nat → Option Pos) (w : World) : Option Pos → D → Value → Prop where
  | s {p : Option Pos} {v : Value} : v.oneCell' = true → Rep S up w p (.s v) v
  | nil {p : Option Pos} : Rep S up w p .nil (.slice none 0 0)
  | np {p : Option Pos} : Rep S up w p .np (.pointer none)
  | sl0 {p : Option Pos} {k : Nat} {a : Option Addr} {c : Nat} : c ≤ maxLen → Rep S up w p (.sl k []) (.slice a 0 c)
  | sl {p : Option Pos} {k : Nat} {rows : List (List D)} {b off c : Nat} (us : Nat → Nat → Value) : rows.length ≤ c → c ≤ maxLen → (∀ (i : Nat) (row : List D), rows[i]? = some row → row.length = k) →
      (∀ (i j : Nat) (row : List D) (d : D), rows[i]? = some row → row[j]? = some d → S b ∧ w.cell? ⟨b, off + i * k + j, none⟩ = some (us i j)) →
      (∀ (i j : Nat) (row : List D) (d : D), rows[i]? = some row → row[j]? = some d → Rep S up w none d (us i j)) → Rep S up w p (.sl k rows) (.slice (some ⟨b, off, none⟩) rows.length c)
  | pt {p : Option Pos} {row : List D} {b off : Nat} (us : Nat → Value) : (∀ (j : Nat) (d : D), row[j]? = some d → S b ∧ w.cell? ⟨b, off + j, none⟩ = some (us j)) →
      (∀ (j : Nat) (d : D), row[j]? = some d → Rep S up w none d (us j)) → Rep S up w p (.pt row) (.pointer (some ⟨b, off, none⟩))
  | fn {p : Option Pos} {f : FuncId} {caps : List D} (us : Nat → Value) : (∀ (j : Nat) (d : D), caps[j]? = some d → Rep S up w none d (us j)) → Rep S up w p (.fn f caps) (.func (.func f) #[] ((List.range caps.length).map us).toArray)
  | osl0 {p : Option Pos} {e k : Nat} : Rep S up w p (.osl e k []) (.slice none 0 0)
  | osl {p : Pos} {e k : Nat} {rows : List (List D)} {b c : Nat} (cs : Array Value) : up b = some p → w.heap[b]? = some (.cells cs e (0, 0)) → rows.length ≤ c → c ≤ maxLen → cs.size = c * k →
      (∀ (i : Nat) (row : List D), rows[i]? = some row → row.length = k) →
      (∀ (i j : Nat) (row : List D) (d : D), rows[i]? = some row → row[j]? = some d → Rep S up w (some (.cell b (i * k + j))) d (cs.getD (i * k + j) undef)) → Rep S up w (some p) (.osl e k rows) (.slice (some ⟨b, 0, none⟩) rows.length c)
  | opt {p : Pos} {row : List D} {b ty : Nat} (cs : Array Value) : up b = some p → w.heap[b]? = some (.cells cs ty (0, 0)) → cs.size = row.length →
      (∀ (j : Nat) (d : D), row[j]? = some d → Rep S up w (some (.cell b j)) d (cs.getD j undef)) → Rep S up w (some p) (.opt row) (.pointer (some ⟨b, 0, none⟩))
theorem Rep.one {S : Nat → Prop} {up : Nat → Option Pos} {w : World} {p : Option Pos} {d : D} {v : Value} (h : Rep S up w p d v) : v.oneCell' = true := by
  cases h <;> first | assumption | rfl
/-- the frame's ghost: the block of a name and its room, the owners, what is sealed. -/
structure Gh where
  β : Nat → Option Nat
  κ : Nat → Nat
  up : Nat → Option Pos
  S : Nat → Prop
/-- the world has changed, the owners were moved; what is sealed and what is in order stays. -/
structure Mv (Ok : Pos → Prop) (π : Pos → Pos) (g g' : Gh) (w w' : World) : Prop where
  sl : ∀ b, g.S b → g'.S b ∧ w'.heap[b]? = w.heap[b]?
  ow : ∀ b p, g.up b = some p → Ok p → g'.up b = some (π p) ∧ w'.heap[b]? = w.heap[b]?
  st : ∀ b p o, g.up b = some p → Ok p → Ok (.cell b o) ∧ π (.cell b o) = .cell b o
theorem cell_of_heap {w w' : World} {b : Nat} (h : w'.heap[b]? = w.heap[b]?) (o : Nat) : w'.cell? ⟨b, o, none⟩ = w.cell? ⟨b, o, none⟩ := by simp only [World.cell?, h]
theorem Rep.move {Ok : Pos → Prop} {π : Pos → Pos} {g g' : Gh} {w w' : World} (m : Mv Ok π g g' w w') {p : Option Pos} {d : D} {v : Value} (h : Rep g.S g.up w p d v) (hp : ∀ q, p = some q → Ok q) : Rep g'.S g'.up w' (p.map π) d v := by
  induction h with
  | s h => exact .s h
  | nil => exact .nil
  | np => exact .np
  | sl0 h => exact .sl0 h
  | sl us h1 h2 h3 h4 _ ih => exact .sl us h1 h2 h3 (fun i j row d r1 r2 => ⟨(m.sl _ (h4 i j row d r1 r2).1).1, (cell_of_heap (m.sl _ (h4 i j row d r1 r2).1).2 _).trans (h4 i j row d r1 r2).2⟩) (fun i j row d r1 r2 => ih i j row d r1 r2 (fun q hq => by cases hq))
  | pt us h1 _ ih => exact .pt us (fun j d r => ⟨(m.sl _ (h1 j d r).1).1, (cell_of_heap (m.sl _ (h1 j d r).1).2 _).trans (h1 j d r).2⟩) (fun j d r => ih j d r (fun q hq => by cases hq))
  | fn us _ ih => exact .fn us (fun j d r => ih j d r (fun q hq => by cases hq))
  | osl0 => exact .osl0
  | @osl p e k rows b c cs h1 h2 h3 h4 h5 h6 _ ih =>
    have ho := hp p rfl
    obtain ⟨m1, m2⟩ := m.ow b p h1 ho
    refine .osl cs m1 (m2.trans h2) h3 h4 h5 h6 fun i j row d r1 r2 => ?_
    obtain ⟨m3, m4⟩ := m.st b p (i * k + j) h1 ho
    have := ih i j row d r1 r2 (fun q hq => by injection hq with hq; subst hq; exact m3)
    rwa [Option.map_some, m4] at this
  | @opt p row b ty cs h1 h2 h3 _ ih =>
    have ho := hp p rfl
    obtain ⟨m1, m2⟩ := m.ow b p h1 ho
    refine .opt cs m1 (m2.trans h2) h3 fun j d r => ?_
    obtain ⟨m3, m4⟩ := m.st b p j h1 ho
    have := ih j d r (fun q hq => by injection hq with hq; subst hq; exact m3)
    rwa [Option.map_some, m4] at this
/-- a cell of a box or of a struct by value. -/
def RC (g : Gh) (w : World) (p : Option Pos) : D → Value → Prop
  | .bx id off, v => ∃ b, g.β id = some b ∧ v = .pointer (some ⟨b, off, none⟩)
  | .el id k i off, v => ∃ b, g.β id = some b ∧ v = .pointer (some ⟨b, i * k + off, none⟩)
  | .bs id _ n, v => v = .slice ((g.β id).map fun b => ⟨b, 0, none⟩) n (g.κ id) ∧ n ≤ g.κ id ∧ g.κ id ≤ maxLen ∧ (g.β id = none → g.κ id = 0)
  | .un, v => v.oneCell' = true
  | .ag _, _ => False
  | .tup _, _ => False
  | .mb _ _, _ => False
  | d, v => Rep g.S g.up w p d v
def RCs (g : Gh) (w : World) (xs : List D) (us : List Value) : Prop := us.length = xs.length ∧ ∀ (j : Nat) (x : D) (u : Value), xs[j]? = some x → us[j]? = some u → RC g w none x u
def RE (g : Gh) (w : World) : D → Value → Prop
  | .ag xs, v => ∃ us : List Value, v = .agg us.toArray ∧ RCs g w xs us
  | .un, _ => True
  | d, v => RC g w none d v
def RT (g : Gh) (w : World) : D → Value → Prop
  | .tup xs, v => ∃ us : List Value, v = .tuple us.toArray ∧ us.length = xs.length ∧ ∀ (j : Nat) (x : D) (u : Value), xs[j]? = some x → us[j]? = some u → RE g w x u
  | .mb c x, v => (c = true → RE g w x v) ∧ (c = false → v = undef)
  | d, v => RE g w d v
theorem Rep.rc {g : Gh} {w : World} {p : Option Pos} {d : D} {v : Value} (h : Rep g.S g.up w p d v) : RC g w p d v := by
  cases d <;> first | exact h | cases h
theorem RC.re {g : Gh} {w : World} {d : D} {v : Value} (h : RC g w none d v) : RE g w d v := by
  cases d <;> first | exact h | exact h.elim | trivial
theorem RE.rt {g : Gh} {w : World} {d : D} {v : Value} (h : RE g w d v) : RT g w d v := by
  cases d <;> first | exact h | exact (RC.elim h) | trivial | exact (show False from h).elim
theorem Rep.rt {g : Gh} {w : World} {d : D} {v : Value} (h : Rep g.S g.up w none d v) : RT g w d v := h.rc.re.rt
theorem RC.one {g : Gh} {w : World} {p : Option Pos} {d : D} {v : Value} (h : RC g w p d v) : v.oneCell' = true := by
  cases d <;> first | exact h | exact Rep.one h | (obtain ⟨b, -, rfl⟩ := h; rfl) | (obtain ⟨rfl, -⟩ := h; rfl) | exact h.elim
/-- refs that stay, those that do not. -/
def scC (q : Nat → Bool) : D → D
  | .bx id off => if q id = true then .bx id off else .un
  | .el id k i off => if q id = true then .el id k i off else .un
  | .bs id k n => if q id = true then .bs id k n else .un
  | d => d
def scE (q : Nat → Bool) : D → D
  | .ag xs => .ag (xs.map (scC q))
  | d => scC q d
def scT (q : Nat → Bool) : D → D
  | .tup xs => .tup (xs.map (scE q))
  | .mb c x => .mb c (scE q x)
  | d => scE q d
/-- an object of the frame: a box (a variable in memory); an array of rows, which holds deep data; an array with one cell open, which holds r. -/
inductive Ob where
  | box (row : List D)
  | arr (e k : Nat) (rows : List (List D))
  | hol (e k : Nat) (rows : List (List D)) (i c : Nat) (r : D)
def scO (q : Nat → Bool) : Ob → Ob
  | .box row => .box (row.map (scC q))
  | .arr e k rows => .arr e k rows
  | .hol e k rows i c r => .hol e k rows i c (scC q r)
structure St where
  t : Nat → D
  b : Nat → Option Ob
def RO (g : Gh) (w : World) (id : Nat) : Ob → Prop
  | .box row => ∃ (b : Nat) (cs : Array Value) (ty : Nat), g.β id = some b ∧ g.up b = some (.root id) ∧ w.heap[b]? = some (.cells cs ty (0, 0)) ∧ cs.size = row.length ∧ ∀ (j : Nat) (d : D), row[j]? = some d → RC g w (some (.cell b j)) d (cs.getD j undef)
  | .arr e k rows => Rep g.S g.up w (some (.root id)) (.osl e k rows) (.slice ((g.β id).map fun b => ⟨b, 0, none⟩) rows.length (g.κ id))
  | .hol e k rows i0 c0 r => ∃ (b : Nat) (cs : Array Value), g.β id = some b ∧ g.up b = some (.root id) ∧ w.heap[b]? = some (.cells cs e (0, 0)) ∧ rows.length ≤ g.κ id ∧ g.κ id ≤ maxLen ∧ cs.size = g.κ id * k ∧ (∀ (i : Nat) (row : List D), rows[i]? = some row → row.length = k) ∧
      i0 < rows.length ∧ c0 < k ∧ RC g w (some (.cell b (i0 * k + c0))) r (cs.getD (i0 * k + c0) undef) ∧ ∀ (i j : Nat) (row : List D) (d : D), rows[i]? = some row → row[j]? = some d → ¬ (i = i0 ∧ j = c0) → Rep g.S g.up w (some (.cell b (i * k + j))) d (cs.getD (i * k + j) undef)
/-- names of what was given at the call. -/
def isP (i : Nat) : Bool := decide (900000 ≤ i) && decide (i < 1000000)
/-- what stays the same through a body: the program, the slots' number, what is sealed and what is given at the call, the world there. -/
structure Cx where
  P : Program
  N : Nat
  S0 : Nat → Prop
  G : Nat → Prop
  w0 : World
  β0 : Nat → Option Nat
  κ0 : Nat → Nat
structure Rel (x : Cx) (g : Gh) (σ : St) (a : Act) (w : World) : Prop where
  bel : Below 0 x.w0 w
  fr : ∀ b, b < x.w0.heap.size → ¬ x.G b → w.heap[b]? = x.w0.heap[b]?
  dfr : a.defers = []
  sz : a.tmps.size = x.N
  tm : ∀ i, RT g w (σ.t i) (a.tmps.getD i undef)
  s0 : ∀ b, x.S0 b → g.S b
  old : ∀ b, b < x.w0.heap.size → g.S b → x.S0 b ∨ x.G b
  new : ∀ b, g.S b → b < w.heap.size
  own : ∀ b p, g.up b = some p → b < w.heap.size ∧ (b < x.w0.heap.size → x.G b) ∧ ¬ g.S b
  ob : ∀ id o, σ.b id = some o → RO g w id o
  par : ∀ id o, σ.b id = some o → isP id = true → g.β id = x.β0 id ∧ g.κ id = x.κ0 id
/-- the slot's new value. -/
def St.put (σ : St) (dst : Option Tmp) (x : D) : St := match dst with
  | some d => ⟨fun i => if i = d then x else σ.t i, σ.b⟩
  | none => σ
theorem Rel.put {x : Cx} {g : Gh} {σ : St} {a : Act} {w : World} (h : Rel x g σ a w) {y : D} {v : Value} (hv : RT g w y v) (dst : Option Tmp) (hd : ∀ d, dst = some d → d < x.N) : Rel x g (σ.put dst y) (a.put dst v) w := by
  cases dst with
  | none => exact h
  | some d =>
    have hdn := hd d rfl
    refine { h with dfr := h.dfr, sz := by simpa [Act.put] using h.sz, tm := fun i => ?_ }
    show RT g w (if i = d then y else σ.t i) ((a.tmps.setIfInBounds d v).getD i undef)
    by_cases e : i = d
    · subst e
      rw [if_pos rfl]
      have : (a.tmps.setIfInBounds i v).getD i undef = v := by
        rw [Array.getD_eq_getD_getElem?, Array.getElem?_setIfInBounds_self_of_lt (by rw [h.sz]; exact hdn)]; rfl
      rw [this]; exact hv
    · rw [if_neg e]
      have : (a.tmps.setIfInBounds d v).getD i undef = a.tmps.getD i undef := by
        rw [Array.getD_eq_getD_getElem?, Array.getElem?_setIfInBounds_ne (by omega), ← Array.getD_eq_getD_getElem?]
      rw [this]; exact h.tm i
/-- the world beside what is kept: q the names whose refs stay, r the objects that stay. -/
structure Ev (Ok : Pos → Prop) (π : Pos → Pos) (q r : Nat → Bool) (g g' : Gh) (w w' : World) : Prop extends Mv Ok π g g' w w' where
  rf : ∀ id, q id = true → g'.β id = g.β id ∧ g'.κ id = g.κ id
  kp : ∀ id, r id = true → q id = true ∧ Ok (.root id) ∧ π (.root id) = .root id
section
variable {Ok : Pos → Prop} {π : Pos → Pos} {q r : Nat → Bool} {g g' : Gh} {w w' : World}
theorem RC.ev (ev : Ev Ok π q r g g' w w') {p : Option Pos} (hp : ∀ z, p = some z → Ok z) {d : D} {v : Value} (h : RC g w p d v) : RC g' w' (p.map π) (scC q d) v := by
  cases d with
  | bx id off =>
    simp only [scC]
    split
    · rename_i hq
      obtain ⟨b, h1, h2⟩ := h
      exact ⟨b, (ev.rf id hq).1.trans h1, h2⟩
    · exact h.one
  | el id k i off =>
    simp only [scC]
    split
    · rename_i hq
      obtain ⟨b, h1, h2⟩ := h
      exact ⟨b, (ev.rf id hq).1.trans h1, h2⟩
    · exact h.one
  | bs id k n =>
    simp only [scC]
    split
    · rename_i hq
      obtain ⟨e1, e2⟩ := ev.rf id hq
      show v = _ ∧ _
      rw [e1, e2]; exact h
    · exact h.one
  | un => exact h
  | ag _ => exact h
  | tup _ => exact h
  | mb _ _ => exact h
  | _ => exact (Rep.move ev.toMv h hp).rc
theorem RCs.ev (ev : Ev Ok π q r g g' w w') {xs : List D} {us : List Value} (h : RCs g w xs us) : RCs g' w' (xs.map (scC q)) us := by
  refine ⟨by simp [h.1], fun j y u a b => ?_⟩
  rw [List.getElem?_map] at a
  cases hy : xs[j]? with
  | none => rw [hy] at a; cases a
  | some z => rw [hy] at a; injection a with a; subst a; exact (h.2 j z u hy b).ev ev (fun z hz => by cases hz)
theorem RE.ev (ev : Ev Ok π q r g g' w w') {d : D} {v : Value} (h : RE g w d v) : RE g' w' (scE q d) v := by
  cases d with
  | ag xs => obtain ⟨us, rfl, h⟩ := h; exact ⟨us, rfl, h.ev ev⟩
  | un => trivial
  | _ => simp only [RE] at h; exact (RC.ev ev (p := none) (fun z hz => by cases hz) h).re
theorem RT.ev (ev : Ev Ok π q r g g' w w') {d : D} {v : Value} (h : RT g w d v) : RT g' w' (scT q d) v := by
  cases d with
  | tup xs =>
    obtain ⟨us, rfl, h1, h2⟩ := h
    refine ⟨us, rfl, by simp [h1], fun j y u a b => ?_⟩
    rw [List.getElem?_map] at a
    cases hy : xs[j]? with
    | none => rw [hy] at a; cases a
    | some z => rw [hy] at a; injection a with a; subst a; exact (h2 j z u hy b).ev ev
  | mb c x => exact ⟨fun hc => (h.1 hc).ev ev, h.2⟩
  | _ => simp only [RT] at h; exact (RE.ev ev h).rt
theorem RO.ev (ev : Ev Ok π q r g g' w w') {id : Nat} (hr : r id = true) {o : Ob} (h : RO g w id o) : RO g' w' id (scO q o) := by
  obtain ⟨k1, k2, k3⟩ := ev.kp id hr
  obtain ⟨e1, e2⟩ := ev.rf id k1
  cases o with
  | box row =>
    obtain ⟨b, cs, ty, h1, h2, h3, h4, h5⟩ := h
    obtain ⟨m1, m2⟩ := ev.ow b _ h2 k2
    refine ⟨b, cs, ty, e1.trans h1, by rw [m1, k3], m2.trans h3, by simp [h4], fun j d hd => ?_⟩
    rw [List.getElem?_map] at hd
    cases hy : row[j]? with
    | none => rw [hy] at hd; cases hd
    | some z =>
      rw [hy] at hd; injection hd with hd; subst hd
      obtain ⟨m3, m4⟩ := ev.st b _ j h2 k2
      have := (h5 j z hy).ev ev (fun z hz => by injection hz with hz; subst hz; exact m3)
      rwa [Option.map_some, m4] at this
  | arr e k rows =>
    have := Rep.move ev.toMv h (fun z hz => by injection hz with hz; subst hz; exact k2)
    rw [Option.map_some, k3] at this
    show Rep _ _ _ _ _ _
    rw [e1, e2]; exact this
  | hol e k rows i0 c0 r =>
    obtain ⟨b, cs, h1, h2, h3, h4, h5, h6, h7, h8, h9, h10, h11⟩ := h
    obtain ⟨m1, m2⟩ := ev.ow b _ h2 k2
    refine ⟨b, cs, e1.trans h1, by rw [m1, k3], m2.trans h3, by rw [e2]; exact h4, by rw [e2]; exact h5, by rw [e2]; exact h6, h7, h8, h9, ?_, fun i j row d r1 r2 r3 => ?_⟩
    · obtain ⟨m3, m4⟩ := ev.st b _ (i0 * k + c0) h2 k2
      have := h10.ev ev (fun z hz => by injection hz with hz; subst hz; exact m3)
      rwa [Option.map_some, m4] at this
    · obtain ⟨m3, m4⟩ := ev.st b _ (i * k + j) h2 k2
      have := Rep.move ev.toMv (h11 i j row d r1 r2 r3) (fun z hz => by injection hz with hz; subst hz; exact m3)
      rwa [Option.map_some, m4] at this
def St.sc (q r : Nat → Bool) (σ : St) : St := ⟨fun i => scT q (σ.t i), fun id => if r id = true then (σ.b id).map (scO q) else none⟩
theorem Rel.ev {x : Cx} {σ : St} {a : Act} (h : Rel x g σ a w) (ev : Ev Ok π q r g g' w w') (hb : Below 0 w w') (hfr : ∀ b, b < x.w0.heap.size → ¬ x.G b → w'.heap[b]? = w.heap[b]?)
    (hold : ∀ b, b < x.w0.heap.size → g'.S b → g.S b ∨ x.G b) (hnew : ∀ b, g'.S b → b < w'.heap.size) (hown : ∀ b p, g'.up b = some p → b < w'.heap.size ∧ (b < x.w0.heap.size → x.G b) ∧ ¬ g'.S b) : Rel x g' (σ.sc q r) a w' := by
  refine ⟨h.bel.trans hb, fun b h1 h2 => (hfr b h1 h2).trans (h.fr b h1 h2), h.dfr, h.sz, fun i => (h.tm i).ev ev, fun b hs => (ev.sl b (h.s0 b hs)).1, fun b h1 h2 => ?_, hnew, hown, fun id o ho => ?_, fun id o ho hp => ?_⟩
  · rcases hold b h1 h2 with q | q
    · exact h.old b h1 q
    · exact .inr q
  · simp only [St.sc] at ho
    split at ho
    · rename_i hr
      obtain ⟨o', h1, rfl⟩ := Option.map_eq_some_iff.1 ho
      exact (h.ob id o' h1).ev ev hr
    · cases ho
  · simp only [St.sc] at ho
    split at ho
    · rename_i hr
      obtain ⟨o', h1, rfl⟩ := Option.map_eq_some_iff.1 ho
      obtain ⟨e1, e2⟩ := ev.rf id (ev.kp id hr).1
      rw [e1, e2]; exact h.par id o' h1 hp
    · cases ho
end
def pAll : Nat → Bool := fun _ => true
def pNot (d : Nat) : Nat → Bool := fun i => i != d
theorem scC_all (d : D) : scC pAll d = d := by cases d <;> rfl
theorem scC_all_map (l : List D) : l.map (scC pAll) = l := by
  induction l with
  | nil => rfl
  | cons y l ih => rw [List.map_cons, scC_all, ih]
theorem scE_all (d : D) : scE pAll d = d := by
  cases d <;> first | (simp only [scE, scC_all_map]; done) | (simp only [scE]; exact scC_all _)
theorem scT_all (d : D) : scT pAll d = d := by
  cases d with
  | tup xs => simp only [scT]; congr 1; exact (List.map_congr_left fun y _ => scE_all y).trans (List.map_id' xs)
  | mb c x => simp only [scT, scE_all]
  | _ => simp only [scT]; exact scE_all _
theorem scO_all (o : Ob) : scO pAll o = o := by cases o <;> simp only [scO, scC_all_map, scC_all]
theorem sc_all (σ : St) : σ.sc pAll pAll = σ := by
  unfold St.sc
  cases σ with
  | mk t b =>
    congr 1
    · funext i; exact scT_all _
    · funext i
      simp only [pAll, if_true]
      cases b i with
      | none => rfl
      | some o => simp only [Option.map_some]; congr 1; exact scO_all o
end Go.Proofs.Ythkgncddilkmbaa
