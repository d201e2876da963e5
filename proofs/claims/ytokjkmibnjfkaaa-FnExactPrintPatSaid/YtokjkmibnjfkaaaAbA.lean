/- The engine, first part: plain data and how they lie in memory. -/
import Derived.WalkKit
import Derived.Lib.Hide
namespace Go.Proofs.Ytokjkmibnjfkaaa
set_option linter.unusedVariables false
open Go.RowKit
/-- plain data: a slice is its rows, a pointer is what it points to. -/
inductive D where
  | s (v : Value)
  | sl (k : Nat) (rows : List (List D))
  | nil
  | pt (row : List D)
  | np
  | fn (f : FuncId) (caps : List D)
instance : Inhabited D := ⟨.nil⟩
/-- the cells that nobody writes any more. -/
abbrev Seal := Nat → Nat → Prop
inductive Rep (S : Seal) (w : World) : D → Value → Prop where
  | s {v : Value} : v.oneCell' = true → Rep S w (.s v) v
  | nil : Rep S w .nil (.slice none 0 0)
  | np : Rep S w .np (.pointer none)
  | sl0 {k : Nat} {a : Option Addr} {c : Nat} : c ≤ maxLen → Rep S w (.sl k []) (.slice a 0 c)
  | sl {k : Nat} {rows : List (List D)} {b off c : Nat} (us : Nat → Nat → Value) : rows.length ≤ c → c ≤ maxLen → (∀ (i : Nat) (row : List D), rows[i]? = some row → row.length = k) →
      (∀ (i j : Nat) (row : List D) (d : D), rows[i]? = some row → row[j]? = some d → S b (off + i * k + j) ∧ w.cell? ⟨b, off + i * k + j, none⟩ = some (us i j)) →
      (∀ (i j : Nat) (row : List D) (d : D), rows[i]? = some row → row[j]? = some d → Rep S w d (us i j)) → Rep S w (.sl k rows) (.slice (some ⟨b, off, none⟩) rows.length c)
  | pt {row : List D} {b off : Nat} (us : Nat → Value) : (∀ (j : Nat) (d : D), row[j]? = some d → S b (off + j) ∧ w.cell? ⟨b, off + j, none⟩ = some (us j)) →
      (∀ (j : Nat) (d : D), row[j]? = some d → Rep S w d (us j)) → Rep S w (.pt row) (.pointer (some ⟨b, off, none⟩))
  | fn {f : FuncId} {caps : List D} (us : Nat → Value) : (∀ (j : Nat) (d : D), caps[j]? = some d → Rep S w d (us j)) → Rep S w (.fn f caps) (.func (.func f) #[] ((List.range caps.length).map us).toArray)
theorem Rep.one {S : Seal} {w : World} {d : D} {v : Value} (h : Rep S w d v) : v.oneCell' = true := by
  cases h <;> first | assumption | rfl
/-- the world has changed, but no sealed cell. -/
structure Kp (S S' : Seal) (w w' : World) : Prop where
  le : ∀ b o, S b o → S' b o
  cell : ∀ b o, S b o → w'.cell? ⟨b, o, none⟩ = w.cell? ⟨b, o, none⟩
theorem Kp.refl (S : Seal) (w : World) : Kp S S w w := ⟨fun _ _ h => h, fun _ _ _ => rfl⟩
theorem Kp.trans {S S' S'' : Seal} {w w' w'' : World} (h : Kp S S' w w') (k : Kp S' S'' w' w'') : Kp S S'' w w'' :=
  ⟨fun b o q => k.le b o (h.le b o q), fun b o q => (k.cell b o (h.le b o q)).trans (h.cell b o q)⟩
theorem Rep.mono {S S' : Seal} {w w' : World} (hk : Kp S S' w w') {d : D} {v : Value} (h : Rep S w d v) : Rep S' w' d v := by
  induction h with
  | s h => exact .s h
  | nil => exact .nil
  | np => exact .np
  | sl0 h => exact .sl0 h
  | sl us h1 h2 h3 h4 _ ih => exact .sl us h1 h2 h3 (fun i j row d r1 r2 => ⟨hk.le _ _ (h4 i j row d r1 r2).1, (hk.cell _ _ (h4 i j row d r1 r2).1).trans (h4 i j row d r1 r2).2⟩) ih
  | pt us h1 _ ih => exact .pt us (fun j d r => ⟨hk.le _ _ (h1 j d r).1, (hk.cell _ _ (h1 j d r).1).trans (h1 j d r).2⟩) ih
  | fn us _ ih => exact .fn us ih
/-- a row of data and its values. -/
def RepL (S : Seal) (w : World) (ds : List D) (us : List Value) : Prop := us.length = ds.length ∧ ∀ (j : Nat) (d : D) (u : Value), ds[j]? = some d → us[j]? = some u → Rep S w d u
theorem RepL.mono {S S' : Seal} {w w' : World} (hk : Kp S S' w w') {ds : List D} {us : List Value} (h : RepL S w ds us) : RepL S' w' ds us := ⟨h.1, fun j d u a b => (h.2 j d u a b).mono hk⟩
theorem RepL.nil (S : Seal) (w : World) : RepL S w [] [] := ⟨rfl, fun j d u a _ => by simp at a⟩
theorem RepL.cons {S : Seal} {w : World} {d : D} {u : Value} {ds : List D} {us : List Value} (h : Rep S w d u) (t : RepL S w ds us) : RepL S w (d :: ds) (u :: us) := by
  refine ⟨by simp [t.1], fun j d' u' a b => ?_⟩
  cases j with
  | zero => simp at a b; subst a b; exact h
  | succ j => exact t.2 j d' u' (by simpa using a) (by simpa using b)
theorem RepL.inv {S : Seal} {w : World} {d : D} {ds : List D} {us : List Value} (h : RepL S w (d :: ds) us) : ∃ u t, us = u :: t ∧ Rep S w d u ∧ RepL S w ds t := by
  obtain ⟨h1, h2⟩ := h
  cases us with
  | nil => simp at h1
  | cons u t => exact ⟨u, t, rfl, h2 0 d u rfl rfl, by simpa using h1, fun j d' u' a b => h2 (j + 1) d' u' (by simpa using a) (by simpa using b)⟩
theorem RepL.append {S : Seal} {w : World} {ds es : List D} {us vs : List Value} (h : RepL S w ds us) (k : RepL S w es vs) : RepL S w (ds ++ es) (us ++ vs) := by
  refine ⟨by simp [h.1, k.1], fun j d u a b => ?_⟩
  rcases Nat.lt_or_ge j ds.length with hj | hj
  · rw [List.getElem?_append_left hj] at a; rw [List.getElem?_append_left (by rw [h.1]; exact hj)] at b; exact h.2 j d u a b
  · rw [List.getElem?_append_right hj] at a; rw [List.getElem?_append_right (by rw [h.1]; exact hj), h.1] at b; exact k.2 _ d u a b
theorem RepL.one {S : Seal} {w : World} {ds : List D} {us : List Value} (h : RepL S w ds us) : ∀ u ∈ us, u.oneCell' = true := by
  intro u hu
  obtain ⟨j, hj, rfl⟩ := List.getElem_of_mem hu
  exact (h.2 j (ds[j]'(by rw [← h.1]; exact hj)) us[j] (by rw [List.getElem?_eq_getElem]) (by rw [List.getElem?_eq_getElem])).one
theorem RepL.take {S : Seal} {w : World} {ds : List D} {us : List Value} (h : RepL S w ds us) (n : Nat) : RepL S w (ds.take n) (us.take n) := by
  refine ⟨by simp [h.1], fun j d u a b => ?_⟩
  rw [List.getElem?_take] at a b
  split at a
  · rename_i hj; rw [if_pos hj] at b; exact h.2 j d u a b
  · cases a
theorem RepL.drop {S : Seal} {w : World} {ds : List D} {us : List Value} (h : RepL S w ds us) (n : Nat) : RepL S w (ds.drop n) (us.drop n) := by
  refine ⟨by simp [h.1], fun j d u a b => ?_⟩
  rw [List.getElem?_drop] at a b
  exact h.2 _ d u a b
/-- what a cell of a variable or of a struct by value may hold: plain data, or a slice of the call's own. -/
inductive C where
  | d (x : D)
  | own (e k : Nat) (rows : List (List D)) (tok : Nat)
/-- what a slot may hold. -/
inductive E where
  | d (x : D)
  | own (e k : Nat) (rows : List (List D)) (tok : Nat)
  | bx (id off : Nat)
  | bs (id k n : Nat)
  | ag (xs : List C)
  | un
inductive T where
  | e (x : E)
  | tup (xs : List E)
  | mb (g : Bool) (x : E)
/-- the frame: slots and variables in memory, these by the slot of their making. -/
structure St where
  t : Nat → T
  b : Nat → Option (List C)
/-- where the variables and the call's own slices lie, and what is sealed. -/
structure Gh where
  β : Nat → Nat
  τ : Nat → Option Nat
  S : Seal
/-- the call's own slice: what it holds is sealed, what lies behind is free. -/
def OwnR (B : Nat) (g : Gh) (w : World) (e k : Nat) (rows : List (List D)) (tok : Nat) (v : Value) : Prop :=
  ∃ xs, w.ownsRow B e k v rows.length xs ∧ v.ownBlock = g.τ tok ∧ (∀ (i : Nat) (row : List D), rows[i]? = some row → row.length = k) ∧ (∀ u ∈ xs, u.oneCell' = true) ∧
    (∀ (i j : Nat) (row : List D) (d : D), rows[i]? = some row → row[j]? = some d → ∃ u, xs[i * k + j]? = some u ∧ Rep g.S w d u) ∧ ∀ b, v.ownBlock = some b → ∀ o, g.S b o ↔ o < rows.length * k
def RC (B : Nat) (g : Gh) (w : World) : C → Value → Prop
  | .d x, v => Rep g.S w x v
  | .own e k rows tok, v => OwnR B g w e k rows tok v
def RCs (B : Nat) (g : Gh) (w : World) (xs : List C) (us : List Value) : Prop := us.length = xs.length ∧ ∀ (j : Nat) (x : C) (u : Value), xs[j]? = some x → us[j]? = some u → RC B g w x u
def RE (B : Nat) (g : Gh) (w : World) : E → Value → Prop
  | .d x, v => Rep g.S w x v
  | .own e k rows tok, v => OwnR B g w e k rows tok v
  | .bx id off, v => v = .pointer (some ⟨g.β id, off, none⟩)
  | .bs id _ n, v => v = .slice (some ⟨g.β id, 0, none⟩) n n ∧ n ≤ maxLen
  | .ag xs, v => ∃ us : List Value, v = .agg us.toArray ∧ RCs B g w xs us
  | .un, _ => True
def RT (B : Nat) (g : Gh) (w : World) : T → Value → Prop
  | .e x, v => RE B g w x v
  | .tup xs, v => ∃ us : List Value, v = .tuple us.toArray ∧ us.length = xs.length ∧ ∀ (j : Nat) (x : E) (u : Value), xs[j]? = some x → us[j]? = some u → RE B g w x u
  | .mb c x, v => (c = true → RE B g w x v) ∧ (c = false → v = undef)
/-- what stays the same through a body: the program, the number of slots, the heap's size and the seal at the call. -/
structure Cx where
  P : Program
  N : Nat
  B : Nat
  S0 : Seal
  w0 : World
/-- the frame stands for the state. -/
structure Rel (x : Cx) (g : Gh) (σ : St) (a : Act) (w : World) : Prop where
  below : Below x.B x.w0 w
  base : x.B ≤ w.heap.size
  dfr : a.defers = []
  sz : a.tmps.size = x.N
  tm : ∀ i, RT x.B g w (σ.t i) (a.tmps.getD i undef)
  old : ∀ b o, b < x.B → (g.S b o ↔ x.S0 b o)
  new : ∀ b o, g.S b o → b < w.heap.size
  bx : ∀ id row, σ.b id = some row → x.B ≤ g.β id ∧ (∀ o, ¬ g.S (g.β id) o) ∧ ∃ (ty : TypeId) (us : List Value), w.heap[g.β id]? = some (.cells us.toArray ty (0, 0)) ∧ (∀ u ∈ us, u.oneCell' = true) ∧ RCs x.B g w row us
  binj : ∀ i j, (σ.b i).isSome → (σ.b j).isSome → g.β i = g.β j → i = j
  bt : ∀ i tok, (σ.b i).isSome → g.τ tok ≠ some (g.β i)
  tinj : ∀ i j b, g.τ i = some b → g.τ j = some b → i = j
  tlt : ∀ i b, g.τ i = some b → x.B ≤ b ∧ b < w.heap.size
/-- some ghost. -/
def Rl (x : Cx) (σ : St) (a : Act) (w : World) : Prop := ∃ g, Rel x g σ a w
/-- an own slice is sealed data. -/
theorem OwnR.rep {B : Nat} {g : Gh} {w : World} {e k : Nat} {rows : List (List D)} {tok : Nat} {v : Value} (h : OwnR B g w e k rows tok v) : Rep g.S w (.sl k rows) v := by
  obtain ⟨xs, ⟨h1, h2⟩, h3, h4, h5, h6, h7⟩ := h
  rcases h2 with ⟨rfl, h2⟩ | ⟨b, cap, cur, rfl, hb, hh, hc, hm, hs, ht⟩
  · have : rows = [] := List.eq_nil_of_length_eq_zero h2
    subst this
    exact .sl0 (by decide)
  · have key : ∀ i j row d, rows[i]? = some row → row[j]? = some d → i * k + j < rows.length * k := by
      intro i j row d q1 q2
      have hi : i < rows.length := (List.getElem?_eq_some_iff.1 q1).1
      have hj : j < k := by rw [← h4 i row q1]; exact (List.getElem?_eq_some_iff.1 q2).1
      have : (i + 1) * k ≤ rows.length * k := Nat.mul_le_mul_right _ hi
      rw [Nat.add_mul, Nat.one_mul] at this
      omega
    refine .sl (fun i j => xs.getD (i * k + j) undef) hc hm h4 (fun i j row d q1 q2 => ⟨?_, ?_⟩) (fun i j row d q1 q2 => ?_)
    · rw [Nat.zero_add]; exact (h7 b rfl _).2 (key i j row d q1 q2)
    · obtain ⟨u, hu, _⟩ := h6 i j row d q1 q2
      rw [List.getD_eq_getElem?_getD, hu, Option.getD_some]
      simp only [World.cell?, hh, Nat.zero_add]
      rw [if_neg (by simp), ← Array.getElem?_toList, ← List.getElem?_take_of_lt (key i j row d q1 q2), ht, hu]
    · obtain ⟨u, hu, hr⟩ := h6 i j row d q1 q2
      rw [List.getD_eq_getElem?_getD, hu, Option.getD_some]; exact hr
/-- the slot's new value. -/
def St.put (σ : St) (dst : Option Tmp) (x : T) : St := match dst with
  | some d => ⟨fun i => if i = d then x else σ.t i, σ.b⟩
  | none => σ
theorem Rel.put {x : Cx} {g : Gh} {σ : St} {a : Act} {w : World} (h : Rel x g σ a w) {y : T} {v : Value} (hv : RT x.B g w y v) (dst : Option Tmp) (hd : ∀ d, dst = some d → d < x.N) : Rel x g (σ.put dst y) (a.put dst v) w := by
  cases dst with
  | none => exact h
  | some d =>
    have hdn := hd d rfl
    refine ⟨h.below, h.base, h.dfr, by simpa [Act.put] using h.sz, fun i => ?_, h.old, h.new, h.bx, h.binj, h.bt, h.tinj, h.tlt⟩
    show RT x.B g w (if i = d then y else σ.t i) ((a.tmps.setIfInBounds d v).getD i undef)
    by_cases e : i = d
    · subst e
      rw [if_pos rfl]
      have : (a.tmps.setIfInBounds i v).getD i undef = v := by
        rw [Array.getD_eq_getD_getElem?, Array.getElem?_setIfInBounds_self_of_lt (by rw [h.sz]; exact hdn)]; rfl
      rw [this]; exact hv
    · rw [if_neg e]
      have : (a.tmps.setIfInBounds d v).getD i undef = a.tmps.getD i undef := by
        rw [Array.getD_eq_getD_getElem?, Array.getElem?_setIfInBounds_ne (by omega), ← Array.getD_eq_getD_getElem?]
      rw [this]; exact h.tm i
/-- what stops being the call's own, what stops being a variable. -/
def scC (p : Nat → Bool) : C → C
  | .d x => .d x
  | .own e k rows t => if p t = true then .own e k rows t else .d (.sl k rows)
def scE (p q : Nat → Bool) : E → E
  | .d x => .d x
  | .own e k rows t => if p t = true then .own e k rows t else .d (.sl k rows)
  | .bx id off => if q id = true then .bx id off else .un
  | .bs id k n => if q id = true then .bs id k n else .un
  | .ag xs => .ag (xs.map (scC p))
  | .un => .un
def scT (p q : Nat → Bool) : T → T
  | .e x => .e (scE p q x)
  | .tup xs => .tup (xs.map (scE p q))
  | .mb c x => .mb c (scE p q x)
def St.sc (p q : Nat → Bool) (σ : St) : St := ⟨fun i => scT p q (σ.t i), fun i => if q i = true then (σ.b i).map (·.map (scC p)) else none⟩
/-- the world has changed beside what is kept. -/
structure Ev (p q : Nat → Bool) (g g' : Gh) (w w' : World) : Prop where
  kp : Kp g.S g'.S w w'
  tok : ∀ t, p t = true → g'.τ t = g.τ t ∧ ∀ b, g.τ t = some b → w'.heap[b]? = w.heap[b]? ∧ ∀ o, g'.S b o ↔ g.S b o
  box : ∀ i, q i = true → g'.β i = g.β i
theorem OwnR.ev {B : Nat} {p q : Nat → Bool} {g g' : Gh} {w w' : World} {e k : Nat} {rows : List (List D)} {tok : Nat} {v : Value} (h : OwnR B g w e k rows tok v) (ev : Ev p q g g' w w') (hp : p tok = true) : OwnR B g' w' e k rows tok v := by
  obtain ⟨xs, h1, h3, h4, h5, h6, h7⟩ := h
  obtain ⟨e1, e2⟩ := ev.tok tok hp
  have h1' : w'.ownsRow B e k v rows.length xs := by
    refine ⟨h1.1, h1.2.imp id ?_⟩
    rintro ⟨b, cap, cur, hv, hb, hh, r⟩
    refine ⟨b, cap, cur, hv, hb, ?_, r⟩
    rw [(e2 b (by rw [← h3, hv]; rfl)).1]; exact hh
  refine ⟨xs, h1', by rw [e1]; exact h3, h4, h5, fun i j row d q1 q2 => ?_, fun b hb o => ?_⟩
  · obtain ⟨u, hu, hr⟩ := h6 i j row d q1 q2
    exact ⟨u, hu, hr.mono ev.kp⟩
  · rw [(e2 b (by rw [← h3]; exact hb)).2 o]; exact h7 b hb o
theorem RC.ev {B : Nat} {p q : Nat → Bool} {g g' : Gh} {w w' : World} (ev : Ev p q g g' w w') {y : C} {v : Value} (h : RC B g w y v) : RC B g' w' (scC p y) v := by
  cases y with
  | d x => exact h.mono ev.kp
  | own e k rows t =>
    simp only [scC]
    split
    · rename_i hp; exact OwnR.ev h ev hp
    · exact (OwnR.rep h).mono ev.kp
theorem RCs.ev {B : Nat} {p q : Nat → Bool} {g g' : Gh} {w w' : World} (ev : Ev p q g g' w w') {ys : List C} {us : List Value} (h : RCs B g w ys us) : RCs B g' w' (ys.map (scC p)) us := by
  refine ⟨by simp [h.1], fun j y u a b => ?_⟩
  rw [List.getElem?_map] at a
  cases hy : ys[j]? with
  | none => rw [hy] at a; cases a
  | some z => rw [hy] at a; injection a with a; subst a; exact (h.2 j z u hy b).ev ev
theorem RE.ev {B : Nat} {p q : Nat → Bool} {g g' : Gh} {w w' : World} (ev : Ev p q g g' w w') {y : E} {v : Value} (h : RE B g w y v) : RE B g' w' (scE p q y) v := by
  cases y with
  | d x => exact Rep.mono ev.kp h
  | own e k rows t =>
    simp only [scE]
    split
    · rename_i hp; exact OwnR.ev h ev hp
    · exact (OwnR.rep h).mono ev.kp
  | bx id off =>
    simp only [scE]
    split
    · rename_i hq
      show v = _
      rw [ev.box id hq]; exact h
    · trivial
  | bs id k n =>
    simp only [scE]
    split
    · rename_i hq
      refine ⟨?_, h.2⟩
      rw [ev.box id hq]; exact h.1
    · trivial
  | ag xs =>
    obtain ⟨us, rfl, h⟩ := h
    exact ⟨us, rfl, h.ev ev⟩
  | un => trivial
theorem RT.ev {B : Nat} {p q : Nat → Bool} {g g' : Gh} {w w' : World} (ev : Ev p q g g' w w') {y : T} {v : Value} (h : RT B g w y v) : RT B g' w' (scT p q y) v := by
  cases y with
  | e x => exact RE.ev ev h
  | tup xs =>
    obtain ⟨us, rfl, h1, h2⟩ := h
    refine ⟨us, rfl, by simp [h1], fun j y u a b => ?_⟩
    rw [List.getElem?_map] at a
    cases hy : xs[j]? with
    | none => rw [hy] at a; cases a
    | some z => rw [hy] at a; injection a with a; subst a; exact (h2 j z u hy b).ev ev
  | mb c x => exact ⟨fun hc => RE.ev ev (h.1 hc), h.2⟩
theorem Rel.ev {x : Cx} {p q : Nat → Bool} {g g' : Gh} {σ : St} {a : Act} {w w' : World} (h : Rel x g σ a w) (ev : Ev p q g g' w w') (hb : Below x.B w w')
    (hbox : ∀ i, q i = true → (σ.b i).isSome → w'.heap[g.β i]? = w.heap[g.β i]? ∧ (∀ o, ¬ g'.S (g.β i) o) ∧ ∀ tok, g'.τ tok ≠ some (g.β i))
    (hs0 : ∀ b o, b < x.B → (g'.S b o ↔ g.S b o)) (hnew : ∀ b o, g'.S b o → b < w'.heap.size) (htinj : ∀ i j b, g'.τ i = some b → g'.τ j = some b → i = j) (htlt : ∀ i b, g'.τ i = some b → x.B ≤ b ∧ b < w'.heap.size) :
    Rel x g' (σ.sc p q) a w' := by
  have key : ∀ i, (((σ.sc p q).b i).isSome) → q i = true ∧ (σ.b i).isSome := by
    intro i hi
    simp only [St.sc] at hi
    split at hi
    · rename_i hq; exact ⟨hq, by simpa using hi⟩
    · cases hi
  refine ⟨h.below.trans hb, Nat.le_trans h.base hb.size, h.dfr, h.sz, fun i => (h.tm i).ev ev, fun b o hlt => (hs0 b o hlt).trans (h.old b o hlt), hnew, fun id row hr => ?_, fun i j hi hj e => ?_, fun i tok hi => ?_, htinj, htlt⟩
  · have hq := key id (by rw [hr]; rfl)
    simp only [St.sc, if_pos hq.1] at hr
    obtain ⟨r0, hr0, rfl⟩ := Option.map_eq_some_iff.1 hr
    obtain ⟨b1, b2, ty, us, b3, b4, b5⟩ := h.bx id r0 hr0
    obtain ⟨c1, c2, -⟩ := hbox id hq.1 (by rw [hr0]; rfl)
    rw [ev.box id hq.1]
    exact ⟨b1, c2, ty, us, c1.trans b3, b4, b5.ev ev⟩
  · obtain ⟨q1, s1⟩ := key i hi
    obtain ⟨q2, s2⟩ := key j hj
    rw [ev.box i q1, ev.box j q2] at e
    exact h.binj i j s1 s2 e
  · obtain ⟨q1, s1⟩ := key i hi
    rw [ev.box i q1]
    exact (hbox i q1 s1).2.2 tok
end Go.Proofs.Ytokjkmibnjfkaaa
