import Derived.WalkKit
import Derived.Lib.Hide
import Derived.Laws.StructEq
/- The engine, first part: plain data and how they lie in memory. -/
namespace Go.Proofs.Ythmedgipfdoneaa
set_option linter.unusedVariables false
open Go.RowKit
/-- plain data: a slice is its rows, a pointer is what it points to. -/
inductive D where
  | s (v : Value)
  | sl (k : Nat) (rows : List (List D))
  | nil
  | pt (row : List D)
  | np
  | fn (f : FuncId) (caps : List D)
instance : Inhabited D := ⟨.nil⟩
/-- the cells that nobody writes any more. -/
abbrev Seal := Nat → Nat → Prop
inductive Rep (S : Seal) (w : World) : D → Value → Prop where
  | s {v : Value} : v.oneCell' = true → Rep S w (.s v) v
  | nil : Rep S w .nil (.slice none 0 0)
  | np : Rep S w .np (.pointer none)
  | sl0 {k : Nat} {a : Option Addr} {c : Nat} : c ≤ maxLen → Rep S w (.sl k []) (.slice a 0 c)
  | sl {k : Nat} {rows : List (List D)} {b off c : Nat} (us : Nat → Nat → Value) : rows.length ≤ c → c ≤ maxLen → (∀ (i : Nat) (row : List D), rows[i]? = some row → row.length = k) →
      (∀ (i j : Nat) (row : List D) (d : D), rows[i]? = some row → row[j]? = some d → S b (off + i * k + j) ∧ w.cell? ⟨b, off + i * k + j, none⟩ = some (us i j)) →
      (∀ (i j : Nat) (row : List D) (d : D), rows[i]? = some row → row[j]? = some d → Rep S w d (us i j)) → Rep S w (.sl k rows) (.slice (some ⟨b, off, none⟩) rows.length c)
  | pt {row : List D} {b off : Nat} (us : Nat → Value) : (∀ (j : Nat) (d : D), row[j]? = some d → S b (off + j) ∧ w.cell? ⟨b, off + j, none⟩ = some (us j)) →
      (∀ (j : Nat) (d : D), row[j]? = some d → Rep S w d (us j)) → Rep S w (.pt row) (.pointer (some ⟨b, off, none⟩))
  | fn {f : FuncId} {caps : List D} (us : Nat → Value) : (∀ (j : Nat) (d : D), caps[j]? = some d → Rep S w d (us j)) → Rep S w (.fn f caps) (.func (.func f) #[] ((List.range caps.length).map us).toArray)
theorem Rep.one {S : Seal} {w : World} {d : D} {v : Value} (h : Rep S w d v) : v.oneCell' = true := by
  cases h <;> first | assumption | rfl
/-- the world has changed, but no sealed cell. -/
structure Kp (S S' : Seal) (w w' : World) : Prop where
  le : ∀ b o, S b o → S' b o
  cell : ∀ b o, S b o → w'.cell? ⟨b, o, none⟩ = w.cell? ⟨b, o, none⟩
theorem Kp.refl (S : Seal) (w : World) : Kp S S w w := ⟨fun _ _ h => h, fun _ _ _ => rfl⟩
theorem Kp.trans {S S' S'' : Seal} {w w' w'' : World} (h : Kp S S' w w') (k : Kp S' S'' w' w'') : Kp S S'' w w'' :=
  ⟨fun b o q => k.le b o (h.le b o q), fun b o q => (k.cell b o (h.le b o q)).trans (h.cell b o q)⟩
theorem Rep.mono {S S' : Seal} {w w' : World} (hk : Kp S S' w w') {d : D} {v : Value} (h : Rep S w d v) : Rep S' w' d v := by
  induction h with
  | s h => exact .s h
  | nil => exact .nil
  | np => exact .np
  | sl0 h => exact .sl0 h
  | sl us h1 h2 h3 h4 _ ih => exact .sl us h1 h2 h3 (fun i j row d r1 r2 => ⟨hk.le _ _ (h4 i j row d r1 r2).1, (hk.cell _ _ (h4 i j row d r1 r2).1).trans (h4 i j row d r1 r2).2⟩) ih
  | pt us h1 _ ih => exact .pt us (fun j d r => ⟨hk.le _ _ (h1 j d r).1, (hk.cell _ _ (h1 j d r).1).trans (h1 j d r).2⟩) ih
  | fn us _ ih => exact .fn us ih
/-- a row of data and its values. -/
def RepL (S : Seal) (w : World) (ds : List D) (us : List Value) : Prop := us.length = ds.length ∧ ∀ (j : Nat) (d : D) (u : Value), ds[j]? = some d → us[j]? = some u → Rep S w d u
theorem RepL.mono {S S' : Seal} {w w' : World} (hk : Kp S S' w w') {ds : List D} {us : List Value} (h : RepL S w ds us) : RepL S' w' ds us := ⟨h.1, fun j d u a b => (h.2 j d u a b).mono hk⟩
theorem RepL.nil (S : Seal) (w : World) : RepL S w [] [] := ⟨rfl, fun j d u a _ => by simp at a⟩
theorem RepL.cons {S : Seal} {w : World} {d : D} {u : Value} {ds : List D} {us : List Value} (h : Rep S w d u) (t : RepL S w ds us) : RepL S w (d :: ds) (u :: us) := by
  refine ⟨by simp [t.1], fun j d' u' a b => ?_⟩
  cases j with
  | zero => simp at a b; subst a b; exact h
  | succ j => exact t.2 j d' u' (by simpa using a) (by simpa using b)
theorem RepL.inv {S : Seal} {w : World} {d : D} {ds : List D} {us : List Value} (h : RepL S w (d :: ds) us) : ∃ u t, us = u :: t ∧ Rep S w d u ∧ RepL S w ds t := by
  obtain ⟨h1, h2⟩ := h
  cases us with
  | nil => simp at h1
  | cons u t => exact ⟨u, t, rfl, h2 0 d u rfl rfl, by simpa using h1, fun j d' u' a b => h2 (j + 1) d' u' (by simpa using a) (by simpa using b)⟩
theorem RepL.append {S : Seal} {w : World} {ds es : List D} {us vs : List Value} (h : RepL S w ds us) (k : RepL S w es vs) : RepL S w (ds ++ es) (us ++ vs) := by
  refine ⟨by simp [h.1, k.1], fun j d u a b => ?_⟩
  rcases Nat.lt_or_ge j ds.length with hj | hj
  · rw [List.getElem?_append_left hj] at a; rw [List.getElem?_append_left (by rw [h.1]; exact hj)] at b; exact h.2 j d u a b
  · rw [List.getElem?_append_right hj] at a; rw [List.getElem?_append_right (by rw [h.1]; exact hj), h.1] at b; exact k.2 _ d u a b
theorem RepL.one {S : Seal} {w : World} {ds : List D} {us : List Value} (h : RepL S w ds us) : ∀ u ∈ us, u.oneCell' = true := by
  intro u hu
  obtain ⟨j, hj, rfl⟩ := List.getElem_of_mem hu
  exact (h.2 j (ds[j]'(by rw [← h.1]; exact hj)) us[j] (by rw [List.getElem?_eq_getElem]) (by rw [List.getElem?_eq_getElem])).one
theorem RepL.take {S : Seal} {w : World} {ds : List D} {us : List Value} (h : RepL S w ds us) (n : Nat) : RepL S w (ds.take n) (us.take n) := by
  refine ⟨by simp [h.1], fun j d u a b => ?_⟩
  rw [List.getElem?_take] at a b
  split at a
  · rename_i hj; rw [if_pos hj] at b; exact h.2 j d u a b
  · cases a
theorem RepL.drop {S : Seal} {w : World} {ds : List D} {us : List Value} (h : RepL S w ds us) (n : Nat) : RepL S w (ds.drop n) (us.drop n) := by
  refine ⟨by simp [h.1], fun j d u a b => ?_⟩
  rw [List.getElem?_drop] at a b
  exact h.2 _ d u a b
/-- what a cell of a variable or of a struct by value may hold: plain data, or a slice of the call's own. -/
inductive C where
  | d (x : D)
  | own (e k : Nat) (rows : List (List D)) (tok : Nat)
/-- what a slot may hold. -/
inductive E where
  | d (x : D)
  | own (e k : Nat) (rows : List (List D)) (tok : Nat)
  | bx (id off : Nat)
  | bs (id k n : Nat)
  | ag (xs : List C)
  | un
inductive T where
  | e (x : E)
  | tup (xs : List E)
  | mb (g : Bool) (x : E)
/-- the frame: slots and variables in memory, these by the slot of their making. -/
structure St where
  t : Nat → T
  b : Nat → Option (List C)
/-- where the variables and the call's own slices lie, and what is sealed. -/
structure Gh where
  β : Nat → Nat
  τ : Nat → Option Nat
  S : Seal
/-- the call's own slice: what it holds is sealed, what lies behind is free. -/
def OwnR (B : Nat) (g : Gh) (w : World) (e k : Nat) (rows : List (List D)) (tok : Nat) (v : Value) : Prop :=
  ∃ xs, w.ownsRow B e k v rows.length xs ∧ v.ownBlock = g.τ tok ∧ (∀ (i : Nat) (row : List D), rows[i]? = some row → row.length = k) ∧ (∀ u ∈ xs, u.oneCell' = true) ∧
    (∀ (i j : Nat) (row : List D) (d : D), rows[i]? = some row → row[j]? = some d → ∃ u, xs[i * k + j]? = some u ∧ Rep g.S w d u) ∧ ∀ b, v.ownBlock = some b → ∀ o, g.S b o ↔ o < rows.length * k
def RC (B : Nat) (g : Gh) (w : World) : C → Value → Prop
  | .d x, v => Rep g.S w x v
  | .own e k rows tok, v => OwnR B g w e k rows tok v
def RCs (B : Nat) (g : Gh) (w : World) (xs : List C) (us : List Value) : Prop := us.length = xs.length ∧ ∀ (j : Nat) (x : C) (u : Value), xs[j]? = some x → us[j]? = some u → RC B g w x u
def RE (B : Nat) (g : Gh) (w : World) : E → Value → Prop
  | .d x, v => Rep g.S w x v
  | .own e k rows tok, v => OwnR B g w e k rows tok v
  | .bx id off, v => v = .pointer (some ⟨g.β id, off, none⟩)
  | .bs id _ n, v => v = .slice (some ⟨g.β id, 0, none⟩) n n ∧ n ≤ maxLen
  | .ag xs, v => ∃ us : List Value, v = .agg us.toArray ∧ RCs B g w xs us
  | .un, _ => True
def RT (B : Nat) (g : Gh) (w : World) : T → Value → Prop
  | .e x, v => RE B g w x v
  | .tup xs, v => ∃ us : List Value, v = .tuple us.toArray ∧ us.length = xs.length ∧ ∀ (j : Nat) (x : E) (u : Value), xs[j]? = some x → us[j]? = some u → RE B g w x u
  | .mb c x, v => (c = true → RE B g w x v) ∧ (c = false → v = undef)
/-- what stays the same through a body: the program, the number of slots, the heap's size and the seal at the call. -/
structure Cx where
  P : Program
  N : Nat
  B : Nat
  S0 : Seal
  w0 : World
/-- the frame stands for the state. -/
structure Rel (x : Cx) (g : Gh) (σ : St) (a : Act) (w : World) : Prop where
  below : Below x.B x.w0 w
  base : x.B ≤ w.heap.size
  dfr : a.defers = []
  sz : a.tmps.size = x.N
  tm : ∀ i, RT x.B g w (σ.t i) (a.tmps.getD i undef)
  old : ∀ b o, b < x.B → (g.S b o ↔ x.S0 b o)
  new : ∀ b o, g.S b o → b < w.heap.size
  bx : ∀ id row, σ.b id = some row → x.B ≤ g.β id ∧ (∀ o, ¬ g.S (g.β id) o) ∧ ∃ (ty : TypeId) (us : List Value), w.heap[g.β id]? = some (.cells us.toArray ty (0, 0)) ∧ (∀ u ∈ us, u.oneCell' = true) ∧ RCs x.B g w row us
  binj : ∀ i j, (σ.b i).isSome → (σ.b j).isSome → g.β i = g.β j → i = j
  bt : ∀ i tok, (σ.b i).isSome → g.τ tok ≠ some (g.β i)
  tinj : ∀ i j b, g.τ i = some b → g.τ j = some b → i = j
  tlt : ∀ i b, g.τ i = some b → x.B ≤ b ∧ b < w.heap.size
/-- some ghost. -/
def Rl (x : Cx) (σ : St) (a : Act) (w : World) : Prop := ∃ g, Rel x g σ a w
/-- an own slice is sealed data. -/
theorem OwnR.rep {B : Nat} {g : Gh} {w : World} {e k : Nat} {rows : List (List D)} {tok : Nat} {v : Value} (h : OwnR B g w e k rows tok v) : Rep g.S w (.sl k rows) v := by
  obtain ⟨xs, ⟨h1, h2⟩, h3, h4, h5, h6, h7⟩ := h
  rcases h2 with ⟨rfl, h2⟩ | ⟨b, cap, cur, rfl, hb, hh, hc, hm, hs, ht⟩
  · have : rows = [] := List.eq_nil_of_length_eq_zero h2
    subst this
    exact .sl0 (by decide)
  · have key : ∀ i j row d, rows[i]? = some row → row[j]? = some d → i * k + j < rows.length * k := by
      intro i j row d q1 q2
      have hi : i < rows.length := (List.getElem?_eq_some_iff.1 q1).1
      have hj : j < k := by rw [← h4 i row q1]; exact (List.getElem?_eq_some_iff.1 q2).1
      have : (i + 1) * k ≤ rows.length * k := Nat.mul_le_mul_right _ hi
      rw [Nat.add_mul, Nat.one_mul] at this
      omega
    refine .sl (fun i j => xs.getD (i * k + j) undef) hc hm h4 (fun i j row d q1 q2 => ⟨?_, ?_⟩) (fun i j row d q1 q2 => ?_)
    · rw [Nat.zero_add]; exact (h7 b rfl _).2 (key i j row d q1 q2)
    · obtain ⟨u, hu, _⟩ := h6 i j row d q1 q2
      rw [List.getD_eq_getElem?_getD, hu, Option.getD_some]
      simp only [World.cell?, hh, Nat.zero_add]
      rw [if_neg (by simp), ← Array.getElem?_toList, ← List.getElem?_take_of_lt (key i j row d q1 q2), ht, hu]
    · obtain ⟨u, hu, hr⟩ := h6 i j row d q1 q2
      rw [List.getD_eq_getElem?_getD, hu, Option.getD_some]; exact hr
/-- the slot's new value. -/
def St.put (σ : St) (dst : Option Tmp) (x : T) : St := match dst with
  | some d => ⟨fun i => if i = d then x else σ.t i, σ.b⟩
  | none => σ
theorem Rel.put {x : Cx} {g : Gh} {σ : St} {a : Act} {w : World} (h : Rel x g σ a w) {y : T} {v : Value} (hv : RT x.B g w y v) (dst : Option Tmp) (hd : ∀ d, dst = some d → d < x.N) : Rel x g (σ.put dst y) (a.put dst v) w := by
  cases dst with
  | none => exact h
  | some d =>
    have hdn := hd d rfl
    refine ⟨h.below, h.base, h.dfr, by simpa [Act.put] using h.sz, fun i => ?_, h.old, h.new, h.bx, h.binj, h.bt, h.tinj, h.tlt⟩
    show RT x.B g w (if i = d then y else σ.t i) ((a.tmps.setIfInBounds d v).getD i undef)
    by_cases e : i = d
    · subst e
      rw [if_pos rfl]
      have : (a.tmps.setIfInBounds i v).getD i undef = v := by
        rw [Array.getD_eq_getD_getElem?, Array.getElem?_setIfInBounds_self_of_lt (by rw [h.sz]; exact hdn)]; rfl
      rw [this]; exact hv
    · rw [if_neg e]
      have : (a.tmps.setIfInBounds d v).getD i undef = a.tmps.getD i undef := by
        rw [Array.getD_eq_getD_getElem?, Array.getElem?_setIfInBounds_ne (by omega), ← Array.getD_eq_getD_getElem?]
      rw [this]; exact h.tm i
/-- what stops being the call's own, what stops being a variable. -/
def scC (p : Nat → Bool) : C → C
  | .d x => .d x
  | .own e k rows t => if p t = true then .own e k rows t else .d (.sl k rows)
def scE (p q : Nat → Bool) : E → E
  | .d x => .d x
  | .own e k rows t => if p t = true then .own e k rows t else .d (.sl k rows)
  | .bx id off => if q id = true then .bx id off else .un
  | .bs id k n => if q id = true then .bs id k n else .un
  | .ag xs => .ag (xs.map (scC p))
  | .un => .un
def scT (p q : Nat → Bool) : T → T
  | .e x => .e (scE p q x)
  | .tup xs => .tup (xs.map (scE p q))
  | .mb c x => .mb c (scE p q x)
def St.sc (p q : Nat → Bool) (σ : St) : St := ⟨fun i => scT p q (σ.t i), fun i => if q i = true then (σ.b i).map (·.map (scC p)) else none⟩
/-- the world has changed beside what is kept. -/
structure Ev (p q : Nat → Bool) (g g' : Gh) (w w' : World) : Prop where
  kp : Kp g.S g'.S w w'
  tok : ∀ t, p t = true → g'.τ t = g.τ t ∧ ∀ b, g.τ t = some b → w'.heap[b]? = w.heap[b]? ∧ ∀ o, g'.S b o ↔ g.S b o
  box : ∀ i, q i = true → g'.β i = g.β i
theorem OwnR.ev {B : Nat} {p q : Nat → Bool} {g g' : Gh} {w w' : World} {e k : Nat} {rows : List (List D)} {tok : Nat} {v : Value} (h : OwnR B g w e k rows tok v) (ev : Ev p q g g' w w') (hp : p tok = true) : OwnR B g' w' e k rows tok v := by
  obtain ⟨xs, h1, h3, h4, h5, h6, h7⟩ := h
  obtain ⟨e1, e2⟩ := ev.tok tok hp
  have h1' : w'.ownsRow B e k v rows.length xs := by
    refine ⟨h1.1, h1.2.imp id ?_⟩
    rintro ⟨b, cap, cur, hv, hb, hh, r⟩
    refine ⟨b, cap, cur, hv, hb, ?_, r⟩
    rw [(e2 b (by rw [← h3, hv]; rfl)).1]; exact hh
  refine ⟨xs, h1', by rw [e1]; exact h3, h4, h5, fun i j row d q1 q2 => ?_, fun b hb o => ?_⟩
  · obtain ⟨u, hu, hr⟩ := h6 i j row d q1 q2
    exact ⟨u, hu, hr.mono ev.kp⟩
  · rw [(e2 b (by rw [← h3]; exact hb)).2 o]; exact h7 b hb o
theorem RC.ev {B : Nat} {p q : Nat → Bool} {g g' : Gh} {w w' : World} (ev : Ev p q g g' w w') {y : C} {v : Value} (h : RC B g w y v) : RC B g' w' (scC p y) v := by
  cases y with
  | d x => exact h.mono ev.kp
  | own e k rows t =>
    simp only [scC]
    split
    · rename_i hp; exact OwnR.ev h ev hp
    · exact (OwnR.rep h).mono ev.kp
theorem RCs.ev {B : Nat} {p q : Nat → Bool} {g g' : Gh} {w w' : World} (ev : Ev p q g g' w w') {ys : List C} {us : List Value} (h : RCs B g w ys us) : RCs B g' w' (ys.map (scC p)) us := by
  refine ⟨by simp [h.1], fun j y u a b => ?_⟩
  rw [List.getElem?_map] at a
  cases hy : ys[j]? with
  | none => rw [hy] at a; cases a
  | some z => rw [hy] at a; injection a with a; subst a; exact (h.2 j z u hy b).ev ev
theorem RE.ev {B : Nat} {p q : Nat → Bool} {g g' : Gh} {w w' : World} (ev : Ev p q g g' w w') {y : E} {v : Value} (h : RE B g w y v) : RE B g' w' (scE p q y) v := by
  cases y with
  | d x => exact Rep.mono ev.kp h
  | own e k rows t =>
    simp only [scE]
    split
    · rename_i hp; exact OwnR.ev h ev hp
    · exact (OwnR.rep h).mono ev.kp
  | bx id off =>
    simp only [scE]
    split
    · rename_i hq
      show v = _
      rw [ev.box id hq]; exact h
    · trivial
  | bs id k n =>
    simp only [scE]
    split
    · rename_i hq
      refine ⟨?_, h.2⟩
      rw [ev.box id hq]; exact h.1
    · trivial
  | ag xs =>
    obtain ⟨us, rfl, h⟩ := h
    exact ⟨us, rfl, h.ev ev⟩
  | un => trivial
theorem RT.ev {B : Nat} {p q : Nat → Bool} {g g' : Gh} {w w' : World} (ev : Ev p q g g' w w') {y : T} {v : Value} (h : RT B g w y v) : RT B g' w' (scT p q y) v := by
  cases y with
  | e x => exact RE.ev ev h
  | tup xs =>
    obtain ⟨us, rfl, h1, h2⟩ := h
    refine ⟨us, rfl, by simp [h1], fun j y u a b => ?_⟩
    rw [List.getElem?_map] at a
    cases hy : xs[j]? with
    | none => rw [hy] at a; cases a
    | some z => rw [hy] at a; injection a with a; subst a; exact (h2 j z u hy b).ev ev
  | mb c x => exact ⟨fun hc => RE.ev ev (h.1 hc), h.2⟩
theorem Rel.ev {x : Cx} {p q : Nat → Bool} {g g' : Gh} {σ : St} {a : Act} {w w' : World} (h : Rel x g σ a w) (ev : Ev p q g g' w w') (hb : Below x.B w w')
    (hbox : ∀ i, q i = true → (σ.b i).isSome → w'.heap[g.β i]? = w.heap[g.β i]? ∧ (∀ o, ¬ g'.S (g.β i) o) ∧ ∀ tok, g'.τ tok ≠ some (g.β i))
    (hs0 : ∀ b o, b < x.B → (g'.S b o ↔ g.S b o)) (hnew : ∀ b o, g'.S b o → b < w'.heap.size) (htinj : ∀ i j b, g'.τ i = some b → g'.τ j = some b → i = j) (htlt : ∀ i b, g'.τ i = some b → x.B ≤ b ∧ b < w'.heap.size) :
    Rel x g' (σ.sc p q) a w' := by
  have key : ∀ i, (((σ.sc p q).b i).isSome) → q i = true ∧ (σ.b i).isSome := by
    intro i hi
    simp only [St.sc] at hi
    split at hi
    · rename_i hq; exact ⟨hq, by simpa using hi⟩
    · cases hi
  refine ⟨h.below.trans hb, Nat.le_trans h.base hb.size, h.dfr, h.sz, fun i => (h.tm i).ev ev, fun b o hlt => (hs0 b o hlt).trans (h.old b o hlt), hnew, fun id row hr => ?_, fun i j hi hj e => ?_, fun i tok hi => ?_, htinj, htlt⟩
  · have hq := key id (by rw [hr]; rfl)
    simp only [St.sc, if_pos hq.1] at hr
    obtain ⟨r0, hr0, rfl⟩ := Option.map_eq_some_iff.1 hr
    obtain ⟨b1, b2, ty, us, b3, b4, b5⟩ := h.bx id r0 hr0
    obtain ⟨c1, c2, -⟩ := hbox id hq.1 (by rw [hr0]; rfl)
    rw [ev.box id hq.1]
    exact ⟨b1, c2, ty, us, c1.trans b3, b4, b5.ev ev⟩
  · obtain ⟨q1, s1⟩ := key i hi
    obtain ⟨q2, s2⟩ := key j hj
    rw [ev.box i q1, ev.box j q2] at e
    exact h.binj i j s1 s2 e
  · obtain ⟨q1, s1⟩ := key i hi
    rw [ev.box i q1]
    exact (hbox i q1 s1).2.2 tok
end Go.Proofs.Ythmedgipfdoneaa

/- The engine, second part: what types say, what operations that change nothing yield. -/
namespace Go.Proofs.Ythmedgipfdoneaa
set_option linter.unusedVariables false
set_option linter.unusedSimpArgs false
open Go.RowKit
/-- a cell's value as data. -/
def dv : Value → D
  | .slice none 0 0 => .nil
  | .pointer none => .np
  | v => .s v
theorem dv_rep (S : Seal) (w : World) (v : Value) (h : v.oneCell' = true) : Rep S w (dv v) v := by
  unfold dv
  split
  · exact .nil
  · exact .np
  · exact .s h
inductive TK where
  | sl (e k bytes : Nat) (z : List D)
  | st (n : Nat) (fs : List (Nat × Nat × Bool)) (z : List D)
  | sc (z : D)
  | no
def aggT (P : Program) (t : TypeId) : Bool := match P.underlying t with
  | some (.struct _) | some (.array _ _) => true
  | _ => false
def szT (P : Program) (t : TypeId) : Nat := match P.info? t with
  | some i => i.size
  | none => 0
/-- what is used of a type. -/
def tk (P : Program) (t : TypeId) : TK :=
  match P.underlying t, P.info? t with
  | some (.slice e), some i => match P.info? e with
    | some j => match j.zero, i.zero with
      | some z, some (.slice none 0 0) => if z.cells.size = j.size ∧ 0 < j.size ∧ i.size = 1 ∧ z.cells.toList.all (·.oneCell') = true then .sl e j.size j.bytes (z.cells.toList.map dv) else .no
      | _, _ => .no
    | none => .no
  | some (.struct fs), some i => match i.zero with
    | some (.agg z) => if z.size = i.size ∧ z.toList.all (·.oneCell') = true ∧ fs.toList.all (fun f => decide (szT P f.type ≠ 0) && (P.underlying f.type).isSome && (aggT P f.type || decide (szT P f.type = 1))) = true then
        .st i.size (fs.toList.map fun f => (f.offset, szT P f.type, aggT P f.type)) (z.toList.map dv) else .no
    | _ => .no
  | some (.array _ _), _ => .no
  | some _, some i => match i.zero with
    | some z => if i.size = 1 ∧ z.oneCell' = true then .sc (dv z) else .no
    | none => .no
  | none, _ => .no
  | _, none => .no
/-- cells of one type, whatever: their number, whether they are a struct's, the value before any store. -/
def ck (P : Program) (t : TypeId) : Option (Bool × Nat × List D) := match tk P t with
  | .sl _ _ _ _ => some (false, 1, [.nil])
  | .st n _ z => some (true, n, z)
  | .sc z => some (false, 1, [z])
  | .no => none
theorem tk_sl {P : Program} {t e k b : Nat} {z : List D} (h : tk P t = .sl e k b z) : P.underlying t = some (.slice e) ∧ ∃ i zv, P.info? e = some i ∧ i.zero = some zv ∧ i.size = k ∧ i.bytes = b ∧ zv.cells.size = k ∧ 0 < k ∧
    (∀ u ∈ zv.cells.toList, u.oneCell' = true) ∧ z = zv.cells.toList.map dv ∧ ∃ it, P.info? t = some it ∧ it.size = 1 ∧ it.zero = some (.slice none 0 0) := by
  unfold tk at h
  split at h
  · rename_i e' i h1 h2
    split at h
    · rename_i j h3
      split at h
      · rename_i z' h4 h5
        split at h
        · rename_i hc
          injection h with a1 a2 a3 a4
          subst a1 a2 a3 a4
          exact ⟨h1, j, z', h3, h4, rfl, rfl, hc.1, hc.2.1, List.all_eq_true.1 hc.2.2.2, rfl, i, h2, hc.2.2.1, h5⟩
        · cases h
      · cases h
    · cases h
  · split at h
    · split at h <;> cases h
    · cases h
  · cases h
  · split at h
    · split at h <;> cases h
    · cases h
  · cases h
  · cases h
theorem tk_st {P : Program} {t n : Nat} {fs : List (Nat × Nat × Bool)} {z : List D} (h : tk P t = .st n fs z) : ∃ fields i zv, P.underlying t = some (.struct fields) ∧ P.info? t = some i ∧ i.size = n ∧ i.zero = some (.agg zv) ∧ zv.size = n ∧
    (∀ u ∈ zv.toList, u.oneCell' = true) ∧ z = zv.toList.map dv ∧ fs = fields.toList.map (fun f => (f.offset, szT P f.type, aggT P f.type)) ∧ ∀ f ∈ fields.toList, szT P f.type ≠ 0 ∧ (P.underlying f.type).isSome = true ∧ (aggT P f.type = true ∨ szT P f.type = 1) := by
  unfold tk at h
  split at h
  · split at h
    · split at h
      · split at h <;> cases h
      · cases h
    · cases h
  · rename_i fs' i h1 h2
    split at h
    · rename_i z' h4
      split at h
      · rename_i hc
        injection h with a1 a2 a3
        subst a1 a2 a3
        refine ⟨fs', i, z', h1, h2, rfl, h4, hc.1, List.all_eq_true.1 hc.2.1, rfl, rfl, ?_⟩
        intro f hf
        have := List.all_eq_true.1 hc.2.2 f hf
        simp only [Bool.and_eq_true, Bool.or_eq_true, decide_eq_true_eq] at this
        exact ⟨this.1.1, this.1.2, this.2⟩
      · cases h
    · cases h
  · cases h
  · split at h
    · split at h <;> cases h
    · cases h
  · cases h
  · cases h
theorem tk_sc {P : Program} {t : Nat} {z : D} (h : tk P t = .sc z) : ∃ d i zv, P.underlying t = some d ∧ aggT P t = false ∧ P.info? t = some i ∧ i.size = 1 ∧ i.zero = some zv ∧ zv.oneCell' = true ∧ z = dv zv := by
  unfold tk at h
  split at h
  · split at h
    · split at h
      · split at h <;> cases h
      · cases h
    · cases h
  · split at h
    · split at h <;> cases h
    · cases h
  · cases h
  · rename_i d i n1 n2 n3 h1 h2
    split at h
    · rename_i z' h3
      split at h
      · rename_i hc
        injection h with a1
        subst a1
        refine ⟨d, i, z', h1, ?_, h2, hc.1, h3, hc.2, rfl⟩
        unfold aggT
        rw [h1]
        cases d <;> first | rfl | exact absurd rfl (n2 _) | exact absurd rfl (n3 _ _)
      · cases h
    · cases h
  · cases h
  · cases h
theorem run_isAgg {P : Program} {t : TypeId} {d : TypeDesc} (h : P.underlying t = some d) (w : World) : (isAgg t).run P w = .ok (aggT P t) w := by
  unfold isAgg aggT
  simp only [Sem.run_bind, run_underlying h, Result.andThen_ok, h]
  cases d <;> rfl
/-- what 'ck' says. -/
theorem ck_spec {P : Program} {t n : Nat} {ag : Bool} {z : List D} (h : ck P t = some (ag, n, z)) : (∀ w, (isAgg t).run P w = .ok ag w) ∧ (∃ i zv, P.info? t = some i ∧ i.size = n ∧ i.zero = some zv ∧ zv.cells.size = n ∧ (∀ u ∈ zv.cells.toList, u.oneCell' = true) ∧ z = zv.cells.toList.map dv) ∧ (ag = false → n = 1) := by
  unfold ck at h
  split at h
  · rename_i e k b z' hk
    injection h with h; injection h with h1 h; injection h with h2 h3
    subst h1 h2 h3
    obtain ⟨hu, -, -, -, -, -, -, -, -, -, -, it, i1, i2, i3⟩ := tk_sl hk
    refine ⟨fun w => ?_, ⟨it, _, i1, i2, i3, rfl, ?_, rfl⟩, fun _ => rfl⟩
    · rw [run_isAgg hu]; unfold aggT; rw [hu]
    · intro u hu'
      simp [Value.cells] at hu'
      subst hu'; rfl
  · rename_i n' fs z' hk
    injection h with h; injection h with h1 h; injection h with h2 h3
    subst h1 h2 h3
    obtain ⟨fields, i, zv, a1, a2, a3, a4, a5, a6, a7, -, -⟩ := tk_st hk
    refine ⟨fun w => ?_, ⟨i, _, a2, a3, a4, a5, a6, a7⟩, fun h => by cases h⟩
    rw [run_isAgg a1]; unfold aggT; rw [a1]
  · rename_i z' hk
    injection h with h; injection h with h1 h; injection h with h2 h3
    subst h1 h2 h3
    obtain ⟨d, i, zv, a1, a2, a3, a4, a5, a6, a7⟩ := tk_sc hk
    have hc : zv.cells = #[zv] := by cases zv <;> first | rfl | (simp [Value.oneCell'] at a6)
    refine ⟨fun w => ?_, ⟨i, zv, a3, a4, a5, by rw [hc]; rfl, ?_, by rw [hc, a7]; rfl⟩, fun _ => rfl⟩
    · rw [run_isAgg a1, a2]
    · intro u hu
      rw [hc] at hu
      simp at hu
      subst hu; exact a6
  · cases h
theorem tk_slice_len {P : Program} {t e k b : Nat} {z : List D} (h : tk P t = .sl e k b z) (w : World) : (sizeOf e).run P w = .ok k w := by
  obtain ⟨-, i, zv, h1, -, h2, -⟩ := tk_sl h
  simp [sizeOf, typeInfo, h1, h2]
theorem ck_size {P : Program} {t n : Nat} {ag : Bool} {z : List D} (h : ck P t = some (ag, n, z)) (w : World) : (sizeOf t).run P w = .ok n w := by
  obtain ⟨-, ⟨i, zv, h1, h2, -⟩, -⟩ := ck_spec h
  simp [sizeOf, typeInfo, h1, h2]
/-- reading a variable. -/
theorem run_loadVar_row {P : Program} {t n : Nat} {z : List D} (h : ck P t = some (true, n, z)) (w : World) (ad : Addr) (cs : List Value) (hl : cs.length = n) (hc : ∀ j v, cs[j]? = some v → w.cell? (ad.add j) = some v) :
    (loadVar t ad).run P w = .ok (.agg cs.toArray) w := by
  obtain ⟨h1, -, -⟩ := ck_spec h
  unfold loadVar
  simp only [Sem.run_bind, h1 w, Result.andThen_ok, if_true, ck_size h w]
  have := run_loadCells_list (P := P) w ad cs hc
  rw [hl] at this
  simp [this]
theorem run_loadVar_one {P : Program} {t n : Nat} {z : List D} (h : ck P t = some (false, n, z)) (w : World) (ad : Addr) (v : Value) (hc : w.cell? ad = some v) :
    (loadVar t ad).run P w = .ok v w := by
  obtain ⟨h1, -, -⟩ := ck_spec h
  unfold loadVar
  simp only [Sem.run_bind, h1 w, Result.andThen_ok, Bool.false_eq_true, if_false]
  simp [load, Sem.run, hc]
/-- an operand. -/
def ev (σ : St) : Operand → T
  | .tmp t => σ.t t
  | .const v => if v.oneCell' = true then .e (.d (dv v)) else .e .un
  | .func f => .e (.d (.fn f []))
  | .global _ => .e .un
theorem ev_ok {x : Cx} {g : Gh} {σ : St} {a : Act} {w : World} (h : Rel x g σ a w) (o : Operand) : RT x.B g w (ev σ o) (a.eval o) := by
  cases o with
  | tmp t => exact h.tm t
  | const v =>
    simp only [ev]
    split
    · rename_i hv; exact dv_rep _ _ _ hv
    · trivial
  | func f => exact Rep.fn (fun _ => undef) (fun j d hj => by simp at hj)
  | global _ => trivial
/-- what is asked of an operand that a guard stands before; what it holds. -/
def oblT : T → Prop
  | .mb c _ => c = true
  | _ => True
def bodyT : T → E
  | .e x => x
  | .mb _ x => x
  | .tup _ => .un
theorem body_ok {B : Nat} {g : Gh} {w : World} {y : T} {v : Value} (h : RT B g w y v) (ho : oblT y) : RE B g w (bodyT y) v := by
  cases y with
  | e x => exact h
  | tup xs => trivial
  | mb c x => exact h.1 ho
/-- what an operation yields that changes nothing. -/
structure Yv where
  ob : Prop
  y : T
def kmin : IntKind → Int
  | .i8 => -128 | .i16 => -32768 | .i32 => -2147483648 | .i64 => -9223372036854775808 | _ => 0
def kmax : IntKind → Int
  | .i8 => 127 | .i16 => 32767 | .i32 => 2147483647 | .i64 => 9223372036854775807
  | .u8 => 255 | .u16 => 65535 | .u32 => 4294967295 | .u64 => 18446744073709551615
theorem wrap_in (k : IntKind) (n : Int) (h : kmin k ≤ n) (h' : n ≤ kmax k) : k.wrap n = n := by
  cases k <;> simp only [kmin, kmax] at h h' <;> simp [IntKind.wrap, IntKind.bits, IntKind.signed, BitVec.toInt_ofInt, BitVec.toNat_ofInt] <;> (try simp only [Int.bmod]) <;> (try split) <;> omega
end Go.Proofs.Ythmedgipfdoneaa

/- The engine, third part: operations that change nothing. -/
namespace Go.Proofs.Ythmedgipfdoneaa
set_option linter.unusedVariables false
set_option linter.unusedSimpArgs false
open Go.RowKit
theorem Rep.s_inv {S : Seal} {w : World} {v u : Value} (h : Rep S w (.s v) u) : u = v := by cases h; rfl
theorem Rep.b {S : Seal} {w : World} (b : Bool) : Rep S w (.s (.bool b)) (.bool b) := .s rfl
theorem Rep.i {S : Seal} {w : World} (k : IntKind) (n : Int) : Rep S w (.s (.int k n)) (.int k n) := .s rfl
theorem Rep.str {S : Seal} {w : World} (s : ByteArray) : Rep S w (.s (.string s)) (.string s) := .s rfl
/-- integers. -/
def aBinI (op : BinOp) (k : IntKind) (m n : Int) : Option (Prop × D) := match op with
  | .add => some (kmin k ≤ m + n ∧ m + n ≤ kmax k, .s (.int k (m + n)))
  | .sub => some (kmin k ≤ m - n ∧ m - n ≤ kmax k, .s (.int k (m - n)))
  | .mul => some (kmin k ≤ m * n ∧ m * n ≤ kmax k, .s (.int k (m * n)))
  | .quo => some (n ≠ 0 ∧ kmin k ≤ m.tdiv n ∧ m.tdiv n ≤ kmax k, .s (.int k (m.tdiv n)))
  | .rem => some (n ≠ 0, .s (.int k (m.tmod n)))
  | .eql => some (True, .s (.bool (m == n)))
  | .neq => some (True, .s (.bool (m != n)))
  | .lss => some (True, .s (.bool (decide (m < n))))
  | .leq => some (True, .s (.bool (decide (m ≤ n))))
  | .gtr => some (True, .s (.bool (decide (m > n))))
  | .geq => some (True, .s (.bool (decide (m ≥ n))))
  | _ => none
theorem aBinI_ok {P : Program} {op : BinOp} {t : TypeId} {k : IntKind} {m n : Int} {ob : Prop} {d : D} (h : aBinI op k m n = some (ob, d)) (ho : ob) (xo yo : Operand) (S : Seal) (w : World) :
    ∃ r, (do eqGuard op t xo yo (.int k m) (.int k n); binOp op t (.int k m) (.int k n) : Sem Value).run P w = .ok r w ∧ Rep S w d r := by
  cases op <;> simp only [aBinI] at h <;> try (cases h; done)
  all_goals
    injection h with h
    injection h with h1 h2
    subst h1 h2
  · exact ⟨_, by simp [go_sem, wrap_in k _ ho.1 ho.2], .i _ _⟩
  · exact ⟨_, by simp [go_sem, wrap_in k _ ho.1 ho.2], .i _ _⟩
  · exact ⟨_, by simp [go_sem, wrap_in k _ ho.1 ho.2], .i _ _⟩
  · exact ⟨_, by simp [go_sem, ho.1, wrap_in k _ ho.2.1 ho.2.2], .i _ _⟩
  · exact ⟨_, by simp [go_sem, ho], .i _ _⟩
  all_goals exact ⟨_, by simp [go_sem], .b _⟩
/-- texts. -/
def aBinS (op : BinOp) (x y : ByteArray) : Option (Prop × D) := match op with
  | .add => some (((x.size + y.size : Nat) : Int) ≤ 9223372036854775807, .s (.string (x ++ y)))
  | .eql => some (True, .s (.bool (x.toList == y.toList)))
  | .neq => some (True, .s (.bool (!(x.toList == y.toList))))
  | .lss => some (True, .s (.bool (Op.bytesLess x.toList y.toList)))
  | .leq => some (True, .s (.bool (Op.bytesLess x.toList y.toList || x.toList == y.toList)))
  | .gtr => some (True, .s (.bool (!(Op.bytesLess x.toList y.toList || x.toList == y.toList))))
  | .geq => some (True, .s (.bool (!Op.bytesLess x.toList y.toList)))
  | _ => none
theorem aBinS_ok {P : Program} {op : BinOp} {t : TypeId} {x y : ByteArray} {ob : Prop} {d : D} (h : aBinS op x y = some (ob, d)) (ho : ob) (xo yo : Operand) (S : Seal) (w : World) :
    ∃ r, (do eqGuard op t xo yo (.string x) (.string y); binOp op t (.string x) (.string y) : Sem Value).run P w = .ok r w ∧ Rep S w d r := by
  cases op <;> simp only [aBinS] at h <;> try (cases h; done)
  all_goals
    injection h with h
    injection h with h1 h2
    subst h1 h2
  · refine ⟨_, ?_, .str _⟩
    have : ¬ (9223372036854775807 < ((x.size + y.size : Nat) : Int)) := by omega
    simp only [Sem.run_bind, eqGuard_at_string, Sem.run_pure, Result.andThen_ok, binOp, Op.stringOp, IntKind.max_i64]
    rw [if_neg (by omega)]
    rfl
  all_goals
    refine ⟨_, ?_, .b _⟩
    simp only [Sem.run_bind, eqGuard_at_string, Sem.run_pure, Result.andThen_ok, binOp, Op.stringOp]
def kindB (P : Program) (t : TypeId) : Nat → Bool
  | 0 => match P.underlying t with | some (.int _) => true | _ => false
  | 1 => match P.underlying t with | some .string => true | _ => false
  | _ => match P.underlying t with | some .bool => true | _ => false
def flatB (P : Program) : List Field → Nat → List Nat → Bool
  | [], _, [] => true
  | f :: fs, off, k :: ks => (f.name != "_") && (f.offset == off) && kindB P f.type k && flatB P fs (off + 1) ks
  | _, _, _ => false
def sqB (P : Program) (t : TypeId) (ks : List Nat) : Bool := !P.eqGuardType P.depth t && (match P.underlying t with | some (.struct fs) => !P.stoodInHeld t && flatB P fs.toList 0 ks | _ => false)
theorem ite_some {α : Type} {p : Prop} [Decidable p] {o : Option α} {a : α} (h : (if p then o else none) = some a) : p ∧ o = some a := by
  by_cases q : p
  · exact ⟨q, by rw [if_pos q] at h; exact h⟩
  · rw [if_neg q] at h; cases h
/-- scalars compared one by one: their kinds, and whether all are equal. -/
def eqCs : List C → List C → Option (List Nat × Bool)
  | [], [] => some ([], true)
  | .d (.s (.int k a)) :: xs, .d (.s (.int k' b)) :: ys => if k = k' then (eqCs xs ys).map fun r => (0 :: r.1, (a == b) && r.2) else none
  | .d (.s (.string a)) :: xs, .d (.s (.string b)) :: ys => (eqCs xs ys).map fun r => (1 :: r.1, (a.toList == b.toList) && r.2)
  | .d (.s (.bool a)) :: xs, .d (.s (.bool b)) :: ys => (eqCs xs ys).map fun r => (2 :: r.1, (a == b) && r.2)
  | _, _ => none
theorem kindB_one {P : Program} {t : TypeId} {k : Nat} (h : kindB P t k = true) (w : World) (cs : Array Value) (off : Nat) (v : Value) (hv : cs[off]? = some v) : (part t cs off).run P w = .ok v w := by
  unfold kindB at h
  split at h <;> (split at h <;> try (cases h; done)) <;> (rename_i hu; simp [part, Sem.run_bind, run_isAgg hu, hv, aggT, hu])
theorem eqCs_run {P : Program} {B : Nat} {g : Gh} {w : World} (d : Nat) : ∀ (fs : List Field) (xs ys : List C) (us vs : List Value) (ks : List Nat) (r : Bool) (pu pv : List Value), eqCs xs ys = some (ks, r) → flatB P fs pu.length ks = true → pu.length = pv.length →
    RCs B g w xs us → RCs B g w ys vs → (Op.eqFields (d + 1) (pu ++ us).toArray (pv ++ vs).toArray fs).run P w = .ok r w := by
  intro fs
  induction fs with
  | nil =>
    intro xs ys us vs ks r pu pv h hf hl hx hy
    unfold eqCs at h
    split at h
    · injection h with h; injection h with h1 h2; subst h1 h2; rfl
    all_goals
      first
      | (cases h; done)
      | (obtain ⟨q, -, hq⟩ := Option.map_eq_some_iff.1 h; injection hq with h1 h2; subst h1; cases hf)
      | (split at h <;> first | (cases h; done) | (obtain ⟨q, -, hq⟩ := Option.map_eq_some_iff.1 h; injection hq with h1 h2; subst h1; cases hf))
  | cons f fs ih =>
    intro xs ys us vs ks r pu pv h hf hl hx hy
    have step : ∀ (x y : C) (xs' ys' : List C) (k : Nat) (ks' : List Nat) (b r' : Bool), xs = x :: xs' → ys = y :: ys' → ks = k :: ks' → r = (b && r') → eqCs xs' ys' = some (ks', r') →
        (∀ u v, RC B g w x u → RC B g w y v → kindB P f.type k = true → (Op.equalIn (d + 1) f.type u v).run P w = .ok b w) → (Op.eqFields (d + 1) (pu ++ us).toArray (pv ++ vs).toArray (f :: fs)).run P w = .ok r w := by
      rintro x y xs' ys' k ks' b r' rfl rfl rfl rfl he hq
      obtain ⟨hxl, hx'⟩ := hx
      obtain ⟨hyl, hy'⟩ := hy
      match us, hxl with
      | u :: us, hxl =>
        match vs, hyl with
        | v :: vs, hyl =>
          simp only [flatB, Bool.and_eq_true, bne_iff_ne, ne_eq, beq_iff_eq] at hf
          obtain ⟨⟨⟨f1, f2⟩, f3⟩, f4⟩ := hf
          have pu1 : ((pu ++ u :: us).toArray)[f.offset]? = some u := by rw [f2]; simp
          have pv1 : ((pv ++ v :: vs).toArray)[f.offset]? = some v := by rw [f2, hl]; simp
          have e1 := hq u v (hx' 0 _ _ rfl rfl) (hy' 0 _ _ rfl rfl) f3
          have i1 := ih xs' ys' us vs ks' r' (pu ++ [u]) (pv ++ [v]) he (by simpa using f4) (by simp [hl]) ⟨by simpa using hxl, fun j c z a b => hx' (j + 1) c z (by simpa using a) (by simpa using b)⟩ ⟨by simpa using hyl, fun j c z a b => hy' (j + 1) c z (by simpa using a) (by simpa using b)⟩
          rw [List.append_assoc, List.append_assoc, List.singleton_append, List.singleton_append] at i1
          unfold Op.eqFields
          rw [if_pos f1]
          simp only [Sem.run_bind, kindB_one f3 w _ _ _ pu1, kindB_one f3 w _ _ _ pv1, Result.andThen_ok, e1]
          cases b
          · rfl
          · simp only [Bool.not_true, Bool.false_eq_true, if_false, Bool.true_and]
            exact i1
    unfold eqCs at h
    split at h
    · injection h with h; injection h with h1 h2; subst h1; cases hf
    · obtain ⟨hkk, hm⟩ := ite_some h
      subst hkk
      obtain ⟨q, hq, e⟩ := Option.map_eq_some_iff.1 hm
      injection e with e1 e2
      refine step _ _ _ _ _ _ _ _ rfl rfl e1.symm e2.symm hq fun u v hu hv hk => ?_
      obtain rfl := Rep.s_inv hu
      obtain rfl := Rep.s_inv hv
      simp only [kindB] at hk
      split at hk
      · rename_i hun; exact run_equalIn_int w d _ _ _ _ _ hun
      · cases hk
    · obtain ⟨q, hq, e⟩ := Option.map_eq_some_iff.1 h
      injection e with e1 e2
      refine step _ _ _ _ _ _ _ _ rfl rfl e1.symm e2.symm hq fun u v hu hv hk => ?_
      obtain rfl := Rep.s_inv hu
      obtain rfl := Rep.s_inv hv
      simp only [kindB] at hk
      split at hk
      · rename_i hun; exact run_equalIn_string w d _ _ _ hun
      · cases hk
    · obtain ⟨q, hq, e⟩ := Option.map_eq_some_iff.1 h
      injection e with e1 e2
      refine step _ _ _ _ _ _ _ _ rfl rfl e1.symm e2.symm hq fun u v hu hv hk => ?_
      obtain rfl := Rep.s_inv hu
      obtain rfl := Rep.s_inv hv
      simp only [kindB] at hk
      split at hk
      · rename_i hun; exact run_equalIn_bool' w d _ _ _ hun
      · cases hk
    · cases h
def aBin (P : Program) (op : BinOp) (t : TypeId) (x y : E) : Option (Prop × D) := match x, y with
  | .d (.s (.int k m)), .d (.s (.int k' n)) => match aBinI op k m n with
    | some (ob, d) => some (k = k' ∧ ob, d)
    | none => none
  | .d (.s (.string a)), .d (.s (.string b)) => aBinS op a b
  | .d (.s (.bool a)), .d (.s (.bool b)) => match op with
    | .eql => some (P.underlying t = some .bool, .s (.bool (a == b)))
    | .neq => some (P.underlying t = some .bool, .s (.bool (!(a == b))))
    | _ => none
  | .d (.pt _), .d .np => match op with
    | .eql => some (∃ e, P.underlying t = some (.pointer e), .s (.bool false))
    | .neq => some (∃ e, P.underlying t = some (.pointer e), .s (.bool true))
    | _ => none
  | .d .np, .d .np => match op with
    | .eql => some (∃ e, P.underlying t = some (.pointer e), .s (.bool true))
    | .neq => some (∃ e, P.underlying t = some (.pointer e), .s (.bool false))
    | _ => none
  | .ag xs, .ag ys => match op, eqCs xs ys with
    | .eql, some (ks, r) => some (sqB P t ks = true, .s (.bool r))
    | .neq, some (ks, r) => some (sqB P t ks = true, .s (.bool (!r)))
    | _, _ => none
  | _, _ => none
theorem aBin_ok {P : Program} {op : BinOp} {t : TypeId} {x y : E} {ob : Prop} {d : D} (h : aBin P op t x y = some (ob, d)) (ho : ob) {B : Nat} {g : Gh} {w : World} {u v : Value} (hx : RE B g w x u) (hy : RE B g w y v) (xo yo : Operand) :
    ∃ r, (do eqGuard op t xo yo u v; binOp op t u v : Sem Value).run P w = .ok r w ∧ Rep g.S w d r := by
  unfold aBin at h
  split at h
  · rename_i k m k' n
    split at h
    · rename_i ob' d' h'
      injection h with h; injection h with h1 h2
      subst h1 h2
      obtain ⟨rfl, ho⟩ := ho
      obtain rfl := Rep.s_inv hx
      obtain rfl := Rep.s_inv hy
      exact aBinI_ok h' ho xo yo g.S w
    · cases h
  · obtain rfl := Rep.s_inv hx
    obtain rfl := Rep.s_inv hy
    exact aBinS_ok h ho xo yo g.S w
  · obtain rfl := Rep.s_inv hx
    obtain rfl := Rep.s_inv hy
    split at h <;> try (cases h; done)
    all_goals
      injection h with h; injection h with h1 h2
      subst h1 h2
      refine ⟨_, ?_, .b _⟩
      simp only [Sem.run_bind, eqGuard_at_bool, Sem.run_pure, Result.andThen_ok, binOp, run_equal_bool w t _ _ ho]
  · cases hx
    cases hy
    split at h <;> try (cases h; done)
    all_goals
      injection h with h; injection h with h1 h2
      subst h1 h2
      obtain ⟨e, ho⟩ := ho
      refine ⟨_, ?_, .b _⟩
      simp only [Sem.run_bind, eqGuard_at_pointer, Sem.run_pure, Result.andThen_ok, binOp, run_equal_pointer_nil w t _ (show P.underlying t = some (.pointer (P.pointee t)) by unfold Program.pointee; rw [ho])]
      rfl
  · cases hx
    cases hy
    split at h <;> try (cases h; done)
    all_goals
      injection h with h; injection h with h1 h2
      subst h1 h2
      obtain ⟨e, ho⟩ := ho
      refine ⟨_, ?_, .b _⟩
      simp only [Sem.run_bind, eqGuard_at_pointer, Sem.run_pure, Result.andThen_ok, binOp, run_equal_pointer_nil w t _ (show P.underlying t = some (.pointer (P.pointee t)) by unfold Program.pointee; rw [ho])]
      rfl
  · rename_i xs ys
    obtain ⟨us, rfl, hx⟩ := hx
    obtain ⟨vs, rfl, hy⟩ := hy
    have key : ∀ ks r, eqCs xs ys = some (ks, r) → sqB P t ks = true → (eqGuard op t xo yo (.agg us.toArray) (.agg vs.toArray)).run P w = .ok () w ∧ (Op.equalIn 10000 t (.agg us.toArray) (.agg vs.toArray)).run P w = .ok r w := by
      intro ks r he hs
      unfold sqB at hs
      simp only [Bool.and_eq_true, Bool.not_eq_true'] at hs
      obtain ⟨s1, s2⟩ := hs
      split at s2
      · rename_i fs hu
        simp only [Bool.and_eq_true, Bool.not_eq_true'] at s2
        have hfs : P.fieldsOf t = fs := by unfold Program.fieldsOf; rw [hu]
        refine ⟨run_eqGuard_agg w op t xo yo _ _ s1, ?_⟩
        rw [run_equalIn_agg w 9999 t _ _ (by rw [hfs]; exact hu) s2.1, hfs]
        have := eqCs_run (P := P) (g := g) (w := w) (B := B) 9998 fs.toList xs ys us vs ks r [] [] he s2.2 rfl hx hy
        simpa using this
      · cases s2
    split at h
    · rename_i ks r he
      injection h with h; injection h with h1 h2
      subst h1 h2
      obtain ⟨k1, k2⟩ := key ks r he ho
      exact ⟨_, by simp only [Sem.run_bind, k1, Result.andThen_ok, run_eql_struct, k2], .b _⟩
    · rename_i ks r he
      injection h with h; injection h with h1 h2
      subst h1 h2
      obtain ⟨k1, k2⟩ := key ks r he ho
      exact ⟨_, by simp only [Sem.run_bind, k1, Result.andThen_ok, run_neq_struct, k2], .b _⟩
    · cases h
  · cases h
def aUn (op : UnOp) (x : E) : Option (Prop × D) := match op, x with
  | .not, .d (.s (.bool b)) => some (True, .s (.bool (!b)))
  | .neg, .d (.s (.int k n)) => some (kmin k ≤ 0 - n ∧ 0 - n ≤ kmax k, .s (.int k (0 - n)))
  | _, _ => none
theorem aUn_ok {P : Program} {op : UnOp} {x : E} {ob : Prop} {d : D} (h : aUn op x = some (ob, d)) (ho : ob) {B : Nat} {g : Gh} {w : World} {u : Value} (hx : RE B g w x u) :
    ∃ r, (Op.unary op u).run P w = .ok r w ∧ Rep g.S w d r := by
  unfold aUn at h
  split at h <;> try (cases h; done)
  all_goals
    injection h with h; injection h with h1 h2
    subst h1 h2
    obtain rfl := Rep.s_inv hx
  · exact ⟨_, by simp [Op.unary], .b _⟩
  · exact ⟨_, by simp only [Op.unary, Op.intArith, wrap_in _ _ ho.1 ho.2, Sem.run_pure], .i _ _⟩
/-- sealed data of a variable's cell. -/
def cD : C → D
  | .d x => x
  | .own _ k rows _ => .sl k rows
theorem cD_ok {B : Nat} {g : Gh} {w : World} {y : C} {v : Value} (h : RC B g w y v) : Rep g.S w (cD y) v := by
  cases y with
  | d x => exact h
  | own e k rows t => exact OwnR.rep h
def cE : C → E
  | .d x => .d x
  | .own e k rows t => .own e k rows t
theorem cE_ok {B : Nat} {g : Gh} {w : World} {y : C} {v : Value} (h : RC B g w y v) : RE B g w (cE y) v := by cases y <;> exact h
/-- a load. -/
def aLoad (P : Program) (σ : St) (t : TypeId) (x : E) : Option (Prop × E) := match x with
  | .d (.pt row) => match ck P t with
    | some (true, n, _) => some (n ≤ row.length, .ag ((row.take n).map .d))
    | some (false, _, _) => match row with
      | c :: _ => some (True, .d c)
      | [] => none
    | none => none
  | .bx id off => match σ.b id with
    | some row => match ck P t with
      | some (true, n, _) => some (off + n ≤ row.length, .ag ((row.drop off).take n))
      | some (false, _, _) => match row.drop off with
        | c :: _ => some (True, cE c)
        | [] => none
      | none => none
    | none => none
  | _ => none
theorem add_lit (b o n : Nat) : (⟨b, o, none⟩ : Addr).add n = ⟨b, o + n, none⟩ := Addr.add_lit b o n
theorem getD_of {α : Type} {l : List α} {j : Nat} {x d : α} (h : l[j]? = some x) : l.getD j d = x := by rw [List.getD_eq_getElem?_getD, h]; rfl
theorem aLoad_ok {x : Cx} {σ : St} {t : TypeId} {y z : E} {ob : Prop} (h : aLoad x.P σ t y = some (ob, z)) (ho : ob) {g : Gh} {a : Act} {w : World} (hr : Rel x g σ a w) {u : Value} (hu : RE x.B g w y u) :
    ∃ r, (Instr.loadAt t u).run x.P w = .ok r w ∧ RE x.B g w z r := by
  unfold aLoad at h
  split at h
  · rename_i row
    cases hu with
    | @pt _ b off us h1 h2 =>
      simp only [Instr.loadAt, Sem.run_bind, Instr.sureAddr, Sem.run_pure, Result.andThen_ok]
      split at h
      · rename_i n _ hk
        injection h with h; injection h with e1 e2
        subst e1 e2
        let cs := (List.range n).map us
        refine ⟨.agg cs.toArray, run_loadVar_row hk w _ cs (by simp [cs]) (fun j v hj => ?_), cs, rfl, by simp [cs, Nat.min_eq_left ho], fun j y u hy hu => ?_⟩
        · have hjn : j < n := by
            rcases Nat.lt_or_ge j n with q | q
            · exact q
            · rw [List.getElem?_eq_none (by simpa [cs] using q)] at hj; cases hj
          have hv : us j = v := by simpa [cs, hjn] using hj
          subst hv
          rw [add_lit]
          exact (h1 j (row[j]'(by omega)) (by simp)).2
        · rw [List.getElem?_map, List.getElem?_take] at hy
          split at hy
          · rename_i hjn
            cases hj : row[j]? with
            | none => rw [hj] at hy; cases hy
            | some d =>
              rw [hj] at hy
              injection hy with hy
              subst hy
              have hv : us j = u := by simpa [cs, hjn] using hu
              subst hv
              exact h2 j d hj
          · cases hy
      · rename_i n _ hk
        split at h
        · rename_i c row'
          injection h with h; injection h with e1 e2
          subst e1 e2
          exact ⟨us 0, run_loadVar_one hk w _ _ (by have := (h1 0 c rfl).2; simpa using this), h2 0 c rfl⟩
        · cases h
      · cases h
  · rename_i id off
    split at h
    · rename_i row hb
      obtain ⟨b1, b2, ty, us, b3, b4, b5, b6⟩ := hr.bx id row hb
      have hu' : u = .pointer (some ⟨g.β id, off, none⟩) := hu
      subst hu'
      simp only [Instr.loadAt, Sem.run_bind, Instr.sureAddr, Sem.run_pure, Result.andThen_ok]
      have hcell : ∀ j v, us[j]? = some v → w.cell? ⟨g.β id, j, none⟩ = some v := by
        intro j v hj
        simp only [World.cell?, b3]
        rw [if_neg (by simp)]
        simpa using hj
      split at h
      · rename_i n _ hk
        injection h with h; injection h with e1 e2
        subst e1 e2
        refine ⟨.agg ((us.drop off).take n).toArray, run_loadVar_row hk w _ _ (by simp; omega) (fun j v hj => ?_), _, rfl, by simp [b5], fun j y u hy hu => ?_⟩
        · rw [List.getElem?_take] at hj
          split at hj
          · rw [List.getElem?_drop] at hj
            rw [add_lit]; exact hcell _ _ hj
          · cases hj
        · rw [List.getElem?_take] at hy hu
          split at hy
          · rename_i hjn
            rw [if_pos hjn] at hu
            rw [List.getElem?_drop] at hy hu
            exact b6 _ _ _ hy hu
          · cases hy
      · rename_i n _ hk
        split at h
        · rename_i c row' hd
          injection h with h; injection h with e1 e2
          subst e1 e2
          have hc : row[off]? = some c := by have := congrArg (fun l => l[0]?) hd; simpa using this
          have hlt : off < us.length := by rw [b5]; exact (List.getElem?_eq_some_iff.1 hc).1
          have hu0 : us[off]? = some us[off] := List.getElem?_eq_getElem hlt
          exact ⟨us[off], run_loadVar_one hk w _ _ (hcell _ _ hu0), cE_ok (b6 _ _ _ hc hu0)⟩
        · cases h
      · cases h
    · cases h
  · cases h
end Go.Proofs.Ythmedgipfdoneaa

/- The engine, fourth part: places, parts, lengths. -/
namespace Go.Proofs.Ythmedgipfdoneaa
set_option linter.unusedVariables false
set_option linter.unusedSimpArgs false
open Go.RowKit
theorem szT_run {P : Program} {t : TypeId} (h : szT P t ≠ 0) (w : World) : (sizeOf t).run P w = .ok (szT P t) w := by
  unfold szT at h ⊢
  cases hi : P.info? t with
  | none => rw [hi] at h; exact absurd rfl h
  | some i => simp [sizeOf, typeInfo, hi]
theorem Rep.pt_drop {S : Seal} {w : World} {row : List D} {b off : Nat} (h : Rep S w (.pt row) (.pointer (some ⟨b, off, none⟩))) (n : Nat) : Rep S w (.pt (row.drop n)) (.pointer (some ⟨b, off + n, none⟩)) := by
  cases h with
  | pt us h1 h2 =>
    refine .pt (fun j => us (n + j)) (fun j d hj => ?_) (fun j d hj => ?_)
    · rw [List.getElem?_drop] at hj
      have := h1 _ _ hj
      rw [← Nat.add_assoc] at this; exact this
    · rw [List.getElem?_drop] at hj
      exact h2 _ _ hj
/-- the place of a field. -/
def aFieldAddr (P : Program) (s : TypeId) (x : E) (f : Nat) : Option (Prop × E) := match tk P s with
  | .st _ fs _ => match fs[f]?, x with
    | some (off, _, _), .d (.pt row) => some (True, .d (.pt (row.drop off)))
    | some (off, _, _), .bx id o => some (True, .bx id (o + off))
    | _, _ => none
  | _ => none
theorem aFieldAddr_ok {P : Program} {s : TypeId} {x y : E} {f : Nat} {ob : Prop} (h : aFieldAddr P s x f = some (ob, y)) {B : Nat} {g : Gh} {w : World} {u : Value} (hu : RE B g w x u) :
    ∃ r, (Instr.fieldAt s u f).run P w = .ok r w ∧ RE B g w y r := by
  unfold aFieldAddr at h
  split at h
  · rename_i n fs z hk
    obtain ⟨fields, i, zv, a1, a2, a3, a4, a5, a6, a7, a8, a9⟩ := tk_st hk
    split at h
    · rename_i off sz ag row hf
      injection h with h; injection h with e1 e2
      subst e1 e2
      rw [a8, List.getElem?_map] at hf
      cases hf' : fields.toList[f]? with
      | none => rw [hf'] at hf; cases hf
      | some fd =>
        rw [hf'] at hf
        injection hf with hf; injection hf with f1 f2; injection f2 with f2 f3
        subst f1
        have hne := (a9 fd (List.mem_of_getElem? hf')).1
        have hu' : Rep g.S w (.pt row) u := hu
        cases u <;> try (cases hu'; done)
        rename_i ad
        cases ad with
        | none => cases hu'
        | some ad =>
          have : ad = ⟨ad.block, ad.off, none⟩ := by cases hu'; rfl
          rw [this] at hu' ⊢
          refine ⟨_, ?_, Rep.pt_drop hu' fd.offset⟩
          simp only [Instr.fieldAt, Sem.run_bind, run_underlying a1, Result.andThen_ok, Array.getElem?_toList ▸ hf', Instr.sureAddr, Sem.run_pure, fieldPlace, szT_run hne]
          rw [if_neg hne]
          simp [Addr.add_lit]
    · rename_i off sz ag id o hf
      injection h with h; injection h with e1 e2
      subst e1 e2
      rw [a8, List.getElem?_map] at hf
      cases hf' : fields.toList[f]? with
      | none => rw [hf'] at hf; cases hf
      | some fd =>
        rw [hf'] at hf
        injection hf with hf; injection hf with f1 f2; injection f2 with f2 f3
        subst f1
        have hne := (a9 fd (List.mem_of_getElem? hf')).1
        have hu' : u = .pointer (some ⟨g.β id, o, none⟩) := hu
        subst hu'
        refine ⟨.pointer (some ⟨g.β id, o + fd.offset, none⟩), ?_, rfl⟩
        simp only [Instr.fieldAt, Sem.run_bind, run_underlying a1, Result.andThen_ok, Array.getElem?_toList ▸ hf', Instr.sureAddr, Sem.run_pure, fieldPlace, szT_run hne]
        rw [if_neg hne]
        simp [Addr.add_lit]
    · cases h
  · cases h
/-- a field of a struct by value. -/
def aField (P : Program) (s : TypeId) (x : E) (f : Nat) : Option (Prop × E) := match tk P s with
  | .st _ fs _ => match fs[f]?, x with
    | some (off, sz, true), .ag xs => some (off + sz ≤ xs.length, .ag ((xs.drop off).take sz))
    | some (off, _, false), .ag xs => match xs.drop off with
      | c :: _ => some (True, cE c)
      | [] => none
    | _, _ => none
  | _ => none
theorem aField_ok {P : Program} {s : TypeId} {x y : E} {f : Nat} {ob : Prop} (h : aField P s x f = some (ob, y)) (ho : ob) {B : Nat} {g : Gh} {w : World} {u : Value} (hu : RE B g w x u) :
    ∃ r, (Instr.field s u f).run P w = .ok r w ∧ RE B g w y r := by
  unfold aField at h
  split at h
  · rename_i n fs z hk
    obtain ⟨fields, i, zv, a1, a2, a3, a4, a5, a6, a7, a8, a9⟩ := tk_st hk
    split at h
    · rename_i off sz xs hf
      injection h with h; injection h with e1 e2
      subst e1 e2
      rw [a8, List.getElem?_map] at hf
      cases hf' : fields.toList[f]? with
      | none => rw [hf'] at hf; cases hf
      | some fd =>
        rw [hf'] at hf
        injection hf with hf; injection hf with f1 f2; injection f2 with f2 f3
        subst f1 f2
        obtain ⟨hne, hsome, -⟩ := a9 fd (List.mem_of_getElem? hf')
        obtain ⟨dd, hd⟩ := Option.isSome_iff_exists.1 hsome
        obtain ⟨us, rfl, h1, h2⟩ := hu
        refine ⟨.agg ((us.drop fd.offset).take (szT P fd.type)).toArray, ?_, _, rfl, by simp [h1], fun j y u hy hu => ?_⟩
        · simp only [Instr.field, Sem.run_bind, run_underlying a1, Result.andThen_ok, Array.getElem?_toList ▸ hf', asAgg, Sem.run_pure, part, run_isAgg hd, f3, if_true, szT_run hne]
          congr 2
          apply Array.ext'
          simp [List.extract_eq_take_drop, Nat.add_sub_cancel_left]
        · rw [List.getElem?_take] at hy hu
          split at hy
          · rename_i hjn
            rw [if_pos hjn] at hu
            rw [List.getElem?_drop] at hy hu
            exact h2 _ _ _ hy hu
          · cases hy
    · rename_i off sz xs hf
      split at h
      · rename_i c row' hd0
        injection h with h; injection h with e1 e2
        subst e1 e2
        rw [a8, List.getElem?_map] at hf
        cases hf' : fields.toList[f]? with
        | none => rw [hf'] at hf; cases hf
        | some fd =>
          rw [hf'] at hf
          injection hf with hf; injection hf with f1 f2; injection f2 with f2 f3
          subst f1 f2
          obtain ⟨hne, hsome, -⟩ := a9 fd (List.mem_of_getElem? hf')
          obtain ⟨dd, hd⟩ := Option.isSome_iff_exists.1 hsome
          obtain ⟨us, rfl, h1, h2⟩ := hu
          have hc : xs[fd.offset]? = some c := by have := congrArg (fun l => l[0]?) hd0; simpa using this
          have hlt : fd.offset < us.length := by rw [h1]; exact (List.getElem?_eq_some_iff.1 hc).1
          refine ⟨us[fd.offset], ?_, cE_ok (h2 _ _ _ hc (List.getElem?_eq_getElem hlt))⟩
          simp only [Instr.field, Sem.run_bind, run_underlying a1, Result.andThen_ok, Array.getElem?_toList ▸ hf', asAgg, Sem.run_pure, part, run_isAgg hd, f3, Bool.false_eq_true, if_false]
          simp [List.getElem?_eq_getElem hlt]
      · cases h
    · cases h
  · cases h
theorem Rep.row {S : Seal} {w : World} {k : Nat} {rows : List (List D)} {a : Option Addr} {n c : Nat} (h : Rep S w (.sl k rows) (.slice a n c)) (i : Nat) (hi : i < rows.length) : ∃ ad, a = some ad ∧ n = rows.length ∧ Rep S w (.pt (rows.getD i [])) (.pointer (some (ad.add (i * k)))) := by
  cases h with
  | sl0 _ => simp at hi
  | @sl _ _ b off c us h1 h2 h3 h4 h5 =>
    refine ⟨_, rfl, rfl, ?_⟩
    have hg : rows[i]? = some rows[i] := List.getElem?_eq_getElem hi
    rw [getD_of hg, add_lit]
    exact .pt (us i) (fun j d hj => h4 i j _ d hg hj) (fun j d hj => h5 i j _ d hg hj)
/-- rows of a slice, however it is held. -/
def rowsE : E → Option (Nat × List (List D))
  | .d (.sl k rows) => some (k, rows)
  | .own _ k rows _ => some (k, rows)
  | _ => none
theorem rowsE_ok {x : E} {k : Nat} {rows : List (List D)} (h : rowsE x = some (k, rows)) {B : Nat} {g : Gh} {w : World} {u : Value} (hu : RE B g w x u) : Rep g.S w (.sl k rows) u := by
  unfold rowsE at h
  split at h
  · injection h with h; injection h with e1 e2; subst e1 e2; exact hu
  · injection h with h; injection h with e1 e2; subst e1 e2; exact OwnR.rep hu
  · cases h
theorem Rep.sl_shape {S : Seal} {w : World} {k : Nat} {rows : List (List D)} {u : Value} (h : Rep S w (.sl k rows) u) : ∃ a c, u = .slice a rows.length c ∧ rows.length ≤ c ∧ c ≤ maxLen := by
  cases h with
  | sl0 h => exact ⟨_, _, rfl, Nat.zero_le _, h⟩
  | sl us h1 h2 h3 h4 h5 => exact ⟨_, _, rfl, h1, h2⟩
def intE : E → Option (IntKind × Int)
  | .d (.s (.int k n)) => some (k, n)
  | _ => none
theorem intE_ok {x : E} {k : IntKind} {n : Int} (h : intE x = some (k, n)) {B : Nat} {g : Gh} {w : World} {u : Value} (hu : RE B g w x u) : u = .int k n := by
  unfold intE at h
  split at h
  · injection h with h; injection h with e1 e2; subst e1 e2; exact Rep.s_inv hu
  · cases h
/-- an element's place. -/
def aIndexAddr (P : Program) (t : TypeId) (x i : E) : Option (Prop × E) := match tk P t, intE i with
  | .sl _ k _ _, some (_, n) => match x with
    | .bs id k' m => some (k' = k ∧ 0 ≤ n ∧ n < (m : Int), .bx id (n.toNat * k'))
    | x => match rowsE x with
      | some (k', rows) => some (k' = k ∧ 0 ≤ n ∧ n < (rows.length : Int), .d (.pt (rows.getD n.toNat [])))
      | none => none
  | _, _ => none
theorem aIndexAddr_ok {P : Program} {t : TypeId} {x i y : E} {ob : Prop} (h : aIndexAddr P t x i = some (ob, y)) (ho : ob) {B : Nat} {g : Gh} {w : World} {u v : Value} (hu : RE B g w x u) (hv : RE B g w i v) :
    ∃ r, (Instr.indexAt t u v).run P w = .ok r w ∧ RE B g w y r := by
  unfold aIndexAddr at h
  split at h
  · rename_i e k b z ik n hk hi
    obtain ⟨hu1, -⟩ := tk_sl hk
    have hel : P.elem t = e := by unfold Program.elem; rw [hu1]
    obtain rfl := intE_ok hi hv
    split at h
    · rename_i id k' m
      injection h with h; injection h with e1 e2
      subst e1 e2
      obtain ⟨rfl, h0, h1⟩ := ho
      obtain ⟨rfl, -⟩ := hu
      refine ⟨.pointer (some ⟨g.β id, n.toNat * k', none⟩), ?_, rfl⟩
      rw [run_indexAt_slice w t _ m m ik n (by rw [hel]; exact hu1), if_pos ⟨h0, h1⟩, hel, tk_slice_len hk]
      simp [Addr.add_lit]
    · split at h
      · rename_i k' rows hx
        injection h with h; injection h with e1 e2
        subst e1 e2
        obtain ⟨rfl, h0, h1⟩ := ho
        have hr := rowsE_ok hx hu
        obtain ⟨a, c, rfl, c1, c2⟩ := hr.sl_shape
        obtain ⟨ad, rfl, -, hp⟩ := hr.row n.toNat (by omega)
        refine ⟨_, ?_, hp⟩
        rw [run_indexAt_slice w t ad rows.length c ik n (by rw [hel]; exact hu1), if_pos ⟨h0, h1⟩, hel, tk_slice_len hk]
        rfl
      · cases h
  · cases h
/-- a byte of a text. -/
def aIndex (P : Program) (t : TypeId) (x i : E) : Option (Prop × D) := match x, intE i with
  | .d (.s (.string s)), some (_, n) => some (P.underlying t = some .string ∧ 0 ≤ n ∧ n < (s.size : Int), .s (.int .u8 ((s.data.toList.getD n.toNat 0).toNat : Int)))
  | _, _ => none
theorem aIndex_ok {P : Program} {t : TypeId} {x i : E} {d : D} {ob : Prop} (h : aIndex P t x i = some (ob, d)) (ho : ob) {B : Nat} {g : Gh} {w : World} {u v : Value} (hu : RE B g w x u) (hv : RE B g w i v) :
    ∃ r, (Instr.index t u v).run P w = .ok r w ∧ Rep g.S w d r := by
  unfold aIndex at h
  split at h
  · rename_i s ik n hi
    injection h with h; injection h with e1 e2
    subst e1 e2
    obtain ⟨h0, h1, h2⟩ := ho
    obtain rfl := Rep.s_inv hu
    obtain rfl := intE_ok hi hv
    refine ⟨_, ?_, .i _ _⟩
    have hlt : n.toNat < s.size := by omega
    have hg : s[n.toNat]? = some s[n.toNat] := by rw [getElem?_pos]
    simp only [Instr.index, asIntOf, Sem.run_bind, Sem.run_pure, Result.andThen_ok, run_underlying h0, if_pos h1, hg]
    have he : s.data.toList.getD n.toNat 0 = s[n.toNat] := by
      have hl : n.toNat < s.data.toList.length := by simpa using hlt
      rw [getD_of (List.getElem?_eq_getElem hl)]; rfl
    rw [he]
  · cases h
end Go.Proofs.Ythmedgipfdoneaa

/- The engine, fifth part: all operations that change nothing, under one name. -/
namespace Go.Proofs.Ythmedgipfdoneaa
set_option linter.unusedVariables false
set_option linter.unusedSimpArgs false
open Go.RowKit
def boundE : Option E → Int → Option Int
  | none, n => some n
  | some x, _ => (intE x).map (·.2)
theorem boundE_ok {lo : Option E} {n l : Int} (h : boundE lo n = some l) {B : Nat} {g : Gh} {w : World} {lv : Option Value} (hl : lv.isSome = lo.isSome) (hr : ∀ x v, lo = some x → lv = some v → RE B g w x v) :
    (lo = none ∧ lv = none ∧ l = n) ∨ ∃ k, lv = some (.int k l) := by
  cases lo with
  | none =>
    left
    cases lv with
    | none => injection h with h; exact ⟨rfl, rfl, h.symm⟩
    | some _ => cases hl
  | some x =>
    right
    cases lv with
    | none => cases hl
    | some v =>
      simp only [boundE, Option.map_eq_some_iff] at h
      obtain ⟨⟨k, m⟩, hm, rfl⟩ := h
      exact ⟨k, by rw [intE_ok hm (hr x v rfl rfl)]⟩
theorem run_bounds {P : Program} {b : Bool} {len cap l h : Nat} {lv hv : Option Value} (hl : (lv = none ∧ l = 0) ∨ ∃ k, lv = some (.int k (l : Int))) (hh : (hv = none ∧ h = len) ∨ ∃ k, hv = some (.int k (h : Int))) (h1 : l ≤ h) (h2 : h ≤ cap) (w : World) :
    (Instr.sliceBounds b len cap lv hv none).run P w = .ok (l, h, cap) w := by
  have e1 : (0 : Int) ≤ (h : Int) ∧ (h : Int) ≤ (cap : Int) := by omega
  have e2 : (0 : Int) ≤ (l : Int) ∧ (l : Int) ≤ (h : Int) := by omega
  rcases hl with ⟨rfl, rfl⟩ | ⟨k, rfl⟩ <;> rcases hh with ⟨rfl, rfl⟩ | ⟨k', rfl⟩ <;>
    simp [Instr.sliceBounds, Instr.sliceBound, asIntOf, e1, e2, h1, h2]
/-- a part of a slice or a text. -/
def aSlice (P : Program) (t : TypeId) (x : E) (lo hi : Option E) : Option (Prop × E) := match tk P t, rowsE x with
  | .sl _ k _ _, some (k', rows) => match boundE lo 0, boundE hi rows.length with
    | some l, some h => some (k' = k ∧ 0 ≤ l ∧ l ≤ h ∧ h ≤ (rows.length : Int), .d (.sl k' ((rows.take h.toNat).drop l.toNat)))
    | _, _ => none
  | _, _ => match x with
    | .d (.s (.string s)) => match boundE lo 0, boundE hi s.size with
      | some l, some h => some (P.underlying t = some .string ∧ 0 ≤ l ∧ l ≤ h ∧ h ≤ (s.size : Int), .d (.s (.string (s.extract l.toNat h.toNat))))
      | _, _ => none
    | _ => none
theorem Rep.part {S : Seal} {w : World} {k : Nat} {rows : List (List D)} {a : Option Addr} {n c : Nat} (hr : Rep S w (.sl k rows) (.slice a n c)) (l h : Nat) (h1 : l ≤ h) (h2 : h ≤ rows.length) :
    Rep S w (.sl k ((rows.take h).drop l)) (.slice (if c = l then a else a.map (·.add (l * k))) (h - l) (c - l)) := by
  have hlen : ((rows.take h).drop l).length = h - l := by rw [List.length_drop, List.length_take, Nat.min_eq_left h2]
  cases hr with
  | sl0 hc =>
    have e0 : h = 0 ∧ l = 0 := by simp at h2; omega
    obtain ⟨rfl, rfl⟩ := e0
    exact .sl0 (by omega)
  | @sl _ _ b off c us c1 c2 c3 c4 c5 =>
    by_cases e : h = l
    · subst e
      have : (rows.take h).drop h = [] := List.eq_nil_of_length_eq_zero (by rw [hlen]; omega)
      rw [this, Nat.sub_self]
      exact .sl0 (by omega)
    · have hne : ¬ c = l := by omega
      rw [if_neg hne, Option.map_some, add_lit, ← hlen]
      have hg : ∀ (i : Nat) (row : List D), ((rows.take h).drop l)[i]? = some row → rows[l + i]? = some row := by
        intro i row hi
        rw [List.getElem?_drop, List.getElem?_take] at hi
        split at hi
        · exact hi
        · cases hi
      refine .sl (fun i j => us (l + i) j) (by rw [hlen]; omega) (by omega) (fun i row hi => c3 _ row (hg i row hi)) (fun i j row d hi hj => ?_) (fun i j row d hi hj => c5 _ j row d (hg i row hi) hj)
      have := c4 (l + i) j row d (hg i row hi) hj
      rw [Nat.add_mul, ← Nat.add_assoc] at this
      exact this
theorem aSlice_ok {P : Program} {t : TypeId} {x y : E} {lo hi : Option E} {ob : Prop} (h : aSlice P t x lo hi = some (ob, y)) (ho : ob) {B : Nat} {g : Gh} {w : World} {u : Value} (hu : RE B g w x u) {lv hv : Option Value}
    (hl1 : lv.isSome = lo.isSome) (hl2 : ∀ x v, lo = some x → lv = some v → RE B g w x v) (hh1 : hv.isSome = hi.isSome) (hh2 : ∀ x v, hi = some x → hv = some v → RE B g w x v) :
    ∃ r, (Instr.sliceAt t u lv hv none).run P w = .ok r w ∧ RE B g w y r := by
  unfold aSlice at h
  split at h
  · rename_i e k b z k' rows hk hx
    split at h
    · rename_i l hh bl bh
      injection h with h; injection h with e1 e2
      subst e1 e2
      obtain ⟨rfl, o1, o2, o3⟩ := ho
      have hr := rowsE_ok hx hu
      obtain ⟨a, c, rfl, c1, c2⟩ := hr.sl_shape
      obtain ⟨hu1, -⟩ := tk_sl hk
      obtain ⟨l, rfl⟩ := Int.eq_ofNat_of_zero_le o1
      obtain ⟨hh, rfl⟩ := Int.eq_ofNat_of_zero_le (Int.le_trans o1 o2)
      have b1 := boundE_ok bl hl1 hl2
      have b2 := boundE_ok bh hh1 hh2
      simp only [Int.toNat_natCast] at *
      refine ⟨_, ?_, Rep.part hr l hh (by omega) (by omega)⟩
      have hb := run_bounds (P := P) (b := true) (len := rows.length) (cap := c) (l := l) (h := hh) (lv := lv) (hv := hv) (b1.imp (fun q => ⟨q.2.1, by omega⟩) id) (b2.imp (fun q => ⟨q.2.1, by omega⟩) id) (by omega) (by omega) w
      simp only [Instr.sliceAt, Sem.run_bind, run_underlying hu1, Result.andThen_ok, Instr.slice, hb, tk_slice_len hk, Sem.run_pure]
    · cases h
  · split at h
    · rename_i s hno
      split at h
      · rename_i l hh bl bh
        injection h with h; injection h with e1 e2
        subst e1 e2
        obtain ⟨ht, o1, o2, o3⟩ := ho
        obtain rfl := Rep.s_inv hu
        obtain ⟨l, rfl⟩ := Int.eq_ofNat_of_zero_le o1
        obtain ⟨hh, rfl⟩ := Int.eq_ofNat_of_zero_le (Int.le_trans o1 o2)
        have b1 := boundE_ok bl hl1 hl2
        have b2 := boundE_ok bh hh1 hh2
        simp only [Int.toNat_natCast] at *
        refine ⟨_, ?_, .str _⟩
        have hb := run_bounds (P := P) (b := false) (len := s.size) (cap := s.size) (l := l) (h := hh) (lv := lv) (hv := hv) (b1.imp (fun q => ⟨q.2.1, by omega⟩) id) (b2.imp (fun q => ⟨q.2.1, by omega⟩) id) (by omega) (by omega) w
        simp only [Instr.sliceAt, Sem.run_bind, run_underlying ht, Result.andThen_ok, Instr.slice, Option.isSome_none, Bool.false_eq_true, if_false, Sem.run_pure, hb]
      · cases h
    · cases h
/-- a length. -/
def aLen (P : Program) (t : TypeId) (x : E) : Option (Prop × D) := match x with
  | .d (.s (.string s)) => some (P.underlying t = some .string, .s (.int .i64 s.size))
  | .d .nil => some (P.underlying t = some (.slice (P.elem t)), .s (.int .i64 0))
  | .d (.sl _ rows) => some (P.underlying t = some (.slice (P.elem t)), .s (.int .i64 rows.length))
  | .own _ _ rows _ => some (P.underlying t = some (.slice (P.elem t)), .s (.int .i64 rows.length))
  | .bs _ _ n => some (P.underlying t = some (.slice (P.elem t)), .s (.int .i64 n))
  | _ => none
theorem aLen_ok {P : Program} {t ty : TypeId} {x : E} {d : D} {ob : Prop} (h : aLen P t x = some (ob, d)) (ho : ob) {B : Nat} {g : Gh} {w : World} {u : Value} (hu : RE B g w x u) :
    ∃ r, (Builtin.len_ #[t] ty #[u]).run P w = .ok r w ∧ Rep g.S w d r := by
  unfold aLen at h
  split at h
  · injection h with h; injection h with e1 e2
    subst e1 e2
    obtain rfl := Rep.s_inv hu
    exact ⟨_, by simp [Builtin.len_, run_underlying ho]; rfl, .i _ _⟩
  · injection h with h; injection h with e1 e2
    subst e1 e2
    cases hu
    exact ⟨_, run_len_slice w t ty _ _ _ ho, .i _ _⟩
  · injection h with h; injection h with e1 e2
    subst e1 e2
    obtain ⟨a, c, rfl, -⟩ := Rep.sl_shape hu
    exact ⟨_, run_len_slice w t ty _ _ _ ho, .i _ _⟩
  · injection h with h; injection h with e1 e2
    subst e1 e2
    obtain ⟨a, c, rfl, -⟩ := Rep.sl_shape (OwnR.rep hu)
    exact ⟨_, run_len_slice w t ty _ _ _ ho, .i _ _⟩
  · injection h with h; injection h with e1 e2
    subst e1 e2
    obtain ⟨rfl, -⟩ := hu
    exact ⟨_, run_len_slice w t ty _ _ _ ho, .i _ _⟩
  · cases h
/-- a number of another kind. -/
def aConv (P : Program) (src dst : TypeId) (x : E) : Option (Prop × D) := match intE x with
  | some (_, n) => some ((P.underlying src).isSome = true ∧ P.underlying dst = some (.int (P.intKind dst)) ∧ kmin (P.intKind dst) ≤ n ∧ n ≤ kmax (P.intKind dst), .s (.int (P.intKind dst) n))
  | none => none
theorem aConv_ok {P : Program} {src dst : TypeId} {x : E} {d : D} {ob : Prop} (h : aConv P src dst x = some (ob, d)) (ho : ob) {B : Nat} {g : Gh} {w : World} {u : Value} (hu : RE B g w x u) :
    ∃ r, (convert src dst u).run P w = .ok r w ∧ Rep g.S w d r := by
  unfold aConv at h
  split at h
  · rename_i k n hx
    injection h with h; injection h with e1 e2
    subst e1 e2
    obtain rfl := intE_ok hx hu
    refine ⟨_, ?_, .i _ _⟩
    rw [run_convert_int w src dst k n ho.1 ho.2.1, wrap_in _ _ ho.2.2.1 ho.2.2.2]
  · cases h
def aNil (x : E) : Option (Prop × E) := match x with
  | .d (.pt row) => some (True, .d (.pt row))
  | .bx id o => some (True, .bx id o)
  | .d (.fn f cs) => some (True, .d (.fn f cs))
  | _ => none
def lift2 (o1 o2 : Prop) : Option (Prop × D) → Option (Prop × T)
  | some (ob, d) => some (o1 ∧ o2 ∧ ob, .e (.d d))
  | none => none
def liftE (o1 o2 : Prop) : Option (Prop × E) → Option (Prop × T)
  | some (ob, d) => some (o1 ∧ o2 ∧ ob, .e d)
  | none => none
def aPick (c a b : T) : Option (Prop × T) := match bodyT c, bodyT a, bodyT b with
  | .d (.s (.bool vc)), .d (.s (.bool va)), .d (.s (.bool vb)) => some (oblT c ∧ (vc = true → oblT a) ∧ (vc = false → oblT b), .e (.d (.s (.bool (bif vc then va else vb)))))
  | _, _, _ => none
def aExtract (x : T) (i : Nat) : Option (Prop × T) := match x with
  | .tup xs => match xs[i]? with
    | some y => some (True, .e y)
    | none => none
  | _ => none
def oblO : Option T → Prop
  | some x => oblT x
  | none => True
/-- an operation that changes nothing: what is asked, what it yields. -/
def aop1 (P : Program) (σ : St) : Op → Option (Prop × T)
  | .move x => some (True, ev σ x)
  | .assign x => some (True, ev σ x)
  | .pick c a b => aPick (ev σ c) (ev σ a) (ev σ b)
  | .binOp op t x y _ => lift2 (oblT (ev σ x)) (oblT (ev σ y)) (aBin P op t (bodyT (ev σ x)) (bodyT (ev σ y)))
  | .unOp op _ x => lift2 (oblT (ev σ x)) True (aUn op (bodyT (ev σ x)))
  | .load t x => liftE (oblT (ev σ x)) True (aLoad P σ t (bodyT (ev σ x)))
  | .fieldAddr s x f => liftE (oblT (ev σ x)) True (aFieldAddr P s (bodyT (ev σ x)) f)
  | .field s x f => liftE (oblT (ev σ x)) True (aField P s (bodyT (ev σ x)) f)
  | .indexAddr t x i => liftE (oblT (ev σ x)) (oblT (ev σ i)) (aIndexAddr P t (bodyT (ev σ x)) (bodyT (ev σ i)))
  | .index t x i => lift2 (oblT (ev σ x)) (oblT (ev σ i)) (aIndex P t (bodyT (ev σ x)) (bodyT (ev σ i)))
  | .slice t x lo hi none => liftE (oblT (ev σ x)) (oblO (lo.map (ev σ)) ∧ oblO (hi.map (ev σ))) (aSlice P t (bodyT (ev σ x)) (lo.map fun y => bodyT (ev σ y)) (hi.map fun y => bodyT (ev σ y)))
  | .extract x i => aExtract (ev σ x) i
  | .nilCheck x => liftE (oblT (ev σ x)) True (aNil (bodyT (ev σ x)))
  | .convert s d x => lift2 (oblT (ev σ x)) True (aConv P s d (bodyT (ev σ x)))
  | .call ⟨.builtin .len, args, ts⟩ => match args.toList, ts.toList with
    | [x], [t] => lift2 (oblT (ev σ x)) True (aLen P t (bodyT (ev σ x)))
    | _, _ => none
  | _ => none
theorem lift2_some {o1 o2 ob : Prop} {r : Option (Prop × D)} {y : T} (h : lift2 o1 o2 r = some (ob, y)) : ∃ ob' d, r = some (ob', d) ∧ ob = (o1 ∧ o2 ∧ ob') ∧ y = .e (.d d) := by
  unfold lift2 at h
  split at h
  · injection h with h; injection h with e1 e2
    exact ⟨_, _, rfl, e1.symm, e2.symm⟩
  · cases h
theorem liftE_some {o1 o2 ob : Prop} {r : Option (Prop × E)} {y : T} (h : liftE o1 o2 r = some (ob, y)) : ∃ ob' d, r = some (ob', d) ∧ ob = (o1 ∧ o2 ∧ ob') ∧ y = .e d := by
  unfold liftE at h
  split at h
  · injection h with h; injection h with e1 e2
    exact ⟨_, _, rfl, e1.symm, e2.symm⟩
  · cases h
theorem aop1_ok {x : Cx} {σ : St} {o : Oper} {ob : Prop} {y : T} (h : aop1 x.P σ o.op = some (ob, y)) (ho : ob) {g : Gh} {a : Act} {w : World} (hr : Rel x g σ a w) :
    ∃ r, (execOp a.eval o).run x.P w = .ok (.value r) w ∧ RT x.B g w y r := by
  have hev := ev_ok hr
  have hb : ∀ z, oblT (ev σ z) → RE x.B g w (bodyT (ev σ z)) (a.eval z) := fun z hz => body_ok (hev z) hz
  unfold aop1 at h
  split at h
  · rename_i z hop
    injection h with h; injection h with e1 e2
    subst e2
    exact ⟨_, by simp only [execOp, hop, Sem.run_pure], hev z⟩
  · rename_i z hop
    injection h with h; injection h with e1 e2
    subst e2
    exact ⟨_, by simp only [execOp, hop, Sem.run_pure], hev z⟩
  · rename_i c p q hop
    unfold aPick at h
    split at h
    · rename_i vc va vb hc ha hb'
      injection h with h; injection h with e1 e2
      subst e1 e2
      obtain ⟨o1, o2, o3⟩ := ho
      have c1 := hb c o1
      rw [hc] at c1
      have c1 : a.eval c = .bool vc := Rep.s_inv c1
      cases vc with
      | true =>
        have c2 := hb p (o2 rfl)
        rw [ha] at c2
        have c2 : a.eval p = .bool va := Rep.s_inv c2
        exact ⟨_, by simp [execOp, hop, c1, asBool, c2], .b _⟩
      | false =>
        have c2 := hb q (o3 rfl)
        rw [hb'] at c2
        have c2 : a.eval q = .bool vb := Rep.s_inv c2
        exact ⟨_, by simp [execOp, hop, c1, asBool, c2], .b _⟩
    · cases h
  · rename_i op t p q yt hop
    obtain ⟨ob', d, h', rfl, rfl⟩ := lift2_some h; replace h := h'
    obtain ⟨r, r1, r2⟩ := aBin_ok h ho.2.2 (hb p ho.1) (hb q ho.2.1) p q
    refine ⟨r, ?_, r2⟩
    simp only [execOp, hop, Sem.run_bind] at r1 ⊢
    rw [r1]; rfl
  · rename_i op t p hop
    obtain ⟨ob', d, h', rfl, rfl⟩ := lift2_some h; replace h := h'
    obtain ⟨r, r1, r2⟩ := aUn_ok (P := x.P) h ho.2.2 (hb p ho.1)
    exact ⟨r, by simp only [execOp, hop, Sem.run_bind, r1]; rfl, r2⟩
  · rename_i t p hop
    obtain ⟨ob', d, h', rfl, rfl⟩ := liftE_some h; replace h := h'
    obtain ⟨r, r1, r2⟩ := aLoad_ok h ho.2.2 hr (hb p ho.1)
    exact ⟨r, by simp only [execOp, hop, Sem.run_bind, r1]; rfl, r2⟩
  · rename_i t p f hop
    obtain ⟨ob', d, h', rfl, rfl⟩ := liftE_some h; replace h := h'
    obtain ⟨r, r1, r2⟩ := aFieldAddr_ok h (hb p ho.1)
    exact ⟨r, by simp only [execOp, hop, Sem.run_bind, r1]; rfl, r2⟩
  · rename_i t p f hop
    obtain ⟨ob', d, h', rfl, rfl⟩ := liftE_some h; replace h := h'
    obtain ⟨r, r1, r2⟩ := aField_ok h ho.2.2 (hb p ho.1)
    exact ⟨r, by simp only [execOp, hop, Sem.run_bind, r1]; rfl, r2⟩
  · rename_i t p i hop
    obtain ⟨ob', d, h', rfl, rfl⟩ := liftE_some h; replace h := h'
    obtain ⟨r, r1, r2⟩ := aIndexAddr_ok h ho.2.2 (hb p ho.1) (hb i ho.2.1)
    exact ⟨r, by simp only [execOp, hop, Sem.run_bind, r1]; rfl, r2⟩
  · rename_i t p i hop
    obtain ⟨ob', d, h', rfl, rfl⟩ := lift2_some h; replace h := h'
    obtain ⟨r, r1, r2⟩ := aIndex_ok h ho.2.2 (hb p ho.1) (hb i ho.2.1)
    exact ⟨r, by simp only [execOp, hop, Sem.run_bind, r1]; rfl, r2⟩
  · rename_i t p lo hi hop
    obtain ⟨ob', d, h', rfl, rfl⟩ := liftE_some h; replace h := h'
    obtain ⟨r, r1, r2⟩ := aSlice_ok (lv := lo.map a.eval) (hv := hi.map a.eval) h ho.2.2 (hb p ho.1) (by cases lo <;> rfl) (fun z v hz hv => by
      cases lo with
      | none => cases hz
      | some l => injection hz with hz; injection hv with hv; subst hz hv; exact hb l ho.2.1.1) (by cases hi <;> rfl) (fun z v hz hv => by
      cases hi with
      | none => cases hz
      | some l => injection hz with hz; injection hv with hv; subst hz hv; exact hb l ho.2.1.2)
    exact ⟨r, by simp only [execOp, hop, Sem.run_bind, Option.map_none, r1]; rfl, r2⟩
  · rename_i p i hop
    unfold aExtract at h
    split at h
    · rename_i xs hx
      split at h
      · rename_i z hz
        injection h with h; injection h with e1 e2
        subst e1 e2
        have h1 := hev p
        rw [hx] at h1
        obtain ⟨us, hu, hl, h2⟩ := h1
        have hlt : i < us.length := by rw [hl]; exact (List.getElem?_eq_some_iff.1 hz).1
        refine ⟨us[i], ?_, h2 i z _ hz (List.getElem?_eq_getElem hlt)⟩
        simp [execOp, hop, hu, Instr.extract, List.getElem?_eq_getElem hlt]
      · cases h
    · cases h
  · rename_i p hop
    obtain ⟨ob', d, h', rfl, rfl⟩ := liftE_some h; replace h := h'
    have h1 := hb p ho.1
    unfold aNil at h
    split at h
    · rename_i row hx
      injection h with h; injection h with e1 e2
      subst e1 e2
      rw [hx] at h1
      refine ⟨a.eval p, ?_, h1⟩
      cases hv : a.eval p <;> rw [hv] at h1 <;> cases h1
      simp [execOp, hop, hv]
    · rename_i id o hx
      injection h with h; injection h with e1 e2
      subst e1 e2
      rw [hx] at h1
      refine ⟨a.eval p, ?_, h1⟩
      have h1 : a.eval p = .pointer (some ⟨g.β id, o, none⟩) := h1
      simp [execOp, hop, h1]
    · rename_i f cs hx
      injection h with h; injection h with e1 e2
      subst e1 e2
      rw [hx] at h1
      refine ⟨a.eval p, ?_, h1⟩
      cases hv : a.eval p <;> rw [hv] at h1 <;> cases h1
      simp [execOp, hop, hv]
    · cases h
  · rename_i s d p hop
    obtain ⟨ob', d, h', rfl, rfl⟩ := lift2_some h; replace h := h'
    obtain ⟨r, r1, r2⟩ := aConv_ok h ho.2.2 (hb p ho.1)
    exact ⟨r, by simp only [execOp, hop, Sem.run_bind, r1]; rfl, r2⟩
  · rename_i args ts hop
    split at h
    · rename_i p t ha ht
      obtain ⟨ob', d, h', rfl, rfl⟩ := lift2_some h; replace h := h'
      obtain ⟨r, r1, r2⟩ := aLen_ok (ty := o.type) h ho.2.2 (hb p ho.1)
      refine ⟨r, ?_, r2⟩
      have ea : args = #[p] := Array.ext' ha
      have et : ts = #[t] := Array.ext' ht
      subst ea et
      simp only [execOp, hop, resolve, invoke, builtin, Sem.run_bind, Sem.run_pure, Result.andThen_ok, List.map_toArray, List.map_cons, List.map_nil]
      rw [r1]; rfl
    · cases h
  · cases h
end Go.Proofs.Ythmedgipfdoneaa

/- The engine, sixth part: variables and the call's own slices. -/
namespace Go.Proofs.Ythmedgipfdoneaa
set_option linter.unusedVariables false
set_option linter.unusedSimpArgs false
open Go.RowKit
def pAll : Nat → Bool := fun _ => true
def pNot (d : Nat) : Nat → Bool := fun i => i != d
theorem scC_all (y : C) : scC pAll y = y := by cases y <;> simp [scC, pAll]
theorem scC_all_map (row : List C) : row.map (scC pAll) = row := by
  induction row with
  | nil => rfl
  | cons y l ih => rw [List.map_cons, scC_all, ih]
def St.setB (σ : St) (d : Nat) (row : List C) : St := ⟨σ.t, fun i => if i = d then some row else σ.b i⟩
theorem alloc_cell {w : World} {o : Obj} {b i : Nat} (h : b < w.heap.size) : (w.alloc o).cell? ⟨b, i, none⟩ = w.cell? ⟨b, i, none⟩ := by
  simp only [World.cell?, Below.heap_alloc w o b h]
theorem alloc_at (w : World) (o : Obj) : (w.alloc o).heap[w.heap.size]? = some o := by show (w.heap.push o)[w.heap.size]? = _; simp
theorem alloc_size (w : World) (o : Obj) : (w.alloc o).heap.size = w.heap.size + 1 := by simp
/-- a new variable, in place of the last one of this slot. -/
theorem Rel.newBox {x : Cx} {g : Gh} {σ : St} {a : Act} {w : World} (h : Rel x g σ a w) (d : Nat) (row : List C) (us : List Value) (ty : TypeId) (h1 : RCs x.B g w row us) (h2 : ∀ u ∈ us, u.oneCell' = true) :
    Rel x ⟨fun i => if i = d then w.heap.size else g.β i, g.τ, g.S⟩ ((σ.sc pAll (pNot d)).setB d row) a (w.alloc (.cells us.toArray ty)) := by
  have ev : Ev pAll (pNot d) g ⟨fun i => if i = d then w.heap.size else g.β i, g.τ, g.S⟩ w (w.alloc (.cells us.toArray ty)) := by
    refine ⟨⟨fun _ _ q => q, fun b o q => alloc_cell (h.new b o q)⟩, fun t _ => ⟨rfl, fun b hb => ⟨?_, fun _ => Iff.rfl⟩⟩, fun i hi => ?_⟩
    · exact Below.heap_alloc _ _ _ (h.tlt t b hb).2
    · simp only [pNot, bne_iff_ne, ne_eq] at hi
      simp [hi]
  have hlt : ∀ i, (σ.b i).isSome → g.β i < w.heap.size := by
    intro i hi
    obtain ⟨row, hr⟩ := Option.isSome_iff_exists.1 hi
    obtain ⟨-, -, ty, us, hh, -⟩ := h.bx i row hr
    rcases Nat.lt_or_ge (g.β i) w.heap.size with q | q
    · exact q
    · rw [Array.getElem?_eq_none q] at hh; cases hh
  have h0 := h.ev ev ((Below.refl _ _).alloc h.base _) (fun i hi hs => ⟨Below.heap_alloc _ _ _ (hlt i hs), ?_, fun tok => h.bt i tok hs⟩) (fun _ _ _ => Iff.rfl) (fun b o q => by rw [alloc_size]; have := h.new b o q; omega) h.tinj (fun i b q => by rw [alloc_size]; have := h.tlt i b q; omega)
  · have hev := h1.ev ev
    rw [scC_all_map] at hev
    refine ⟨h0.below, h0.base, h0.dfr, h0.sz, h0.tm, h0.old, h0.new, fun id r hr => ?_, fun i j hi hj e => ?_, fun i tok hi => ?_, h0.tinj, h0.tlt⟩
    · simp only [St.setB] at hr
      by_cases e : id = d
      · rw [if_pos e] at hr
        injection hr with hr
        subst hr
        simp only [if_pos e]
        exact ⟨h.base, fun o q => by have := h.new _ _ q; omega, ty, us, alloc_at _ _, h2, hev⟩
      · rw [if_neg e] at hr
        exact h0.bx id r hr
    · have key : ∀ i, ((St.setB (σ.sc pAll (pNot d)) d row).b i).isSome → i = d ∨ (i ≠ d ∧ (σ.b i).isSome) := by
        intro i hi
        simp only [St.setB, St.sc, pNot] at hi
        by_cases e : i = d
        · exact .inl e
        · rw [if_neg e] at hi
          simp [e] at hi
          exact .inr ⟨e, by simpa using hi⟩
      simp only at e
      rcases key i hi with q | ⟨q, qs⟩ <;> rcases key j hj with r | ⟨r, rs⟩
      · omega
      · rw [if_pos q, if_neg r] at e; have := hlt j rs; omega
      · rw [if_neg q, if_pos r] at e; have := hlt i qs; omega
      · rw [if_neg q, if_neg r] at e; exact h.binj i j qs rs e
    · by_cases e : i = d
      · simp only [if_pos e]
        intro q
        have := (h.tlt _ _ q).2
        omega
      · have hs : ((σ.sc pAll (pNot d)).b i).isSome := by
          simp only [St.setB] at hi
          rwa [if_neg e] at hi
        exact h0.bt i tok hs
  · obtain ⟨row, hr⟩ := Option.isSome_iff_exists.1 hs
    exact (h.bx i row hr).2.1
/-- cells of a variable, written over. -/
def lay {α : Type} (row : List α) (off : Nat) (xs : List α) : List α := row.take off ++ xs ++ row.drop (off + xs.length)
theorem Rel.store {x : Cx} {g : Gh} {σ : St} {a : Act} {w : World} (h : Rel x g σ a w) (id off : Nat) (row xs : List C) (hb : σ.b id = some row) (us : List Value) (h1 : RCs x.B g w xs us) (h2 : ∀ u ∈ us, u.oneCell' = true) (hl : off + xs.length ≤ row.length) :
    ∃ w', (storeCells ⟨g.β id, off, none⟩ us).run x.P w = .ok () w' ∧ Rel x g (σ.setB id (lay row off xs)) a w' := by
  obtain ⟨b1, b2, ty, vs, b3, b4, b5, b6⟩ := h.bx id row hb
  have hul := h1.1
  have hr := run_storeCells_at x.P (g.β id) off ty us 0 vs.toArray w b3 (by simp; omega) h2
  refine ⟨_, hr, ?_⟩
  simp only [Nat.add_zero]
  generalize hcs : (vs.take off ++ us ++ vs.drop (off + us.length)) = cs
  have ev : Ev pAll pAll g g w (w.setRow (g.β id) cs.toArray) := by
    refine ⟨⟨fun _ _ q => q, fun b o q => cell_setRow_other _ _ _ _ (fun e => b2 o (by have e : b = g.β id := e; rw [← e]; exact q))⟩, fun t _ => ⟨rfl, fun b hb' => ⟨setRow_other _ _ _ _ (fun e => ?_), fun _ => Iff.rfl⟩⟩, fun i hi => rfl⟩
    exact h.bt id t (by rw [hb]; rfl) (by rw [hb', e])
  have hev := h1.ev ev
  rw [scC_all_map] at hev
  have htm : ∀ i, RT x.B g (w.setRow (g.β id) cs.toArray) (σ.t i) (a.tmps.getD i undef) := by
    intro i
    have q := (h.tm i).ev ev
    have : scT pAll pAll (σ.t i) = σ.t i := by
      have he : ∀ y, scE pAll pAll y = y := by
        intro y
        cases y <;> simp [scE, pAll, ← pAll.eq_1, scC_all_map]
      cases σ.t i <;> simp [scT, he, List.map_id'']
    rw [this] at q; exact q
  refine ⟨h.below.trans ⟨rfl, rfl, rfl, by simp, fun k hk => setRow_other _ _ _ _ (by omega)⟩, by simpa using h.base, h.dfr, h.sz, htm, h.old, fun b o q => by simpa using h.new b o q, fun i r hr => ?_, fun i j hi hj => ?_, fun i tok hi => ?_, h.tinj, fun i b q => by simpa using h.tlt i b q⟩
  · simp only [St.setB] at hr
    by_cases e : i = id
    · subst e
      rw [if_pos rfl] at hr
      injection hr with hr
      subst hr
      have hcsl : cs.length = (lay row off xs).length := by
        subst hcs
        simp only [lay, List.length_append, List.length_take, List.length_drop, b5, hul]
      refine ⟨b1, b2, ty, cs, setRow_heap _ _ _ _ _ _ b3, fun u hu => ?_, hcsl, fun j y u hy hu => ?_⟩
      · subst hcs
        rcases List.mem_append.1 hu with hu | hu
        · rcases List.mem_append.1 hu with hu | hu
          · exact b4 u (List.mem_of_mem_take hu)
          · exact h2 u hu
        · exact b4 u (List.mem_of_mem_drop hu)
      · subst hcs
        have hold : ∀ (j : Nat) (y : C) (u : Value), row[j]? = some y → vs[j]? = some u → RC x.B g (w.setRow (g.β i) ((vs.take off ++ us ++ vs.drop (off + us.length))).toArray) y u := by
          intro j y u q1 q2
          have := (b6 j y u q1 q2).ev ev
          rwa [scC_all] at this
        unfold lay at hy
        have t1 : (row.take off).length = off := by rw [List.length_take]; omega
        have t2 : (vs.take off).length = off := by rw [List.length_take]; omega
        rcases Nat.lt_or_ge j off with q | q
        · rw [List.append_assoc, List.getElem?_append_left (by omega), List.getElem?_take_of_lt q] at hy hu
          exact hold j y u hy hu
        · rw [List.append_assoc, List.getElem?_append_right (by omega)] at hy hu
          rw [t1] at hy
          rw [t2] at hu
          rcases Nat.lt_or_ge (j - off) xs.length with r | r
          · rw [List.getElem?_append_left (by omega)] at hy hu
            exact hev.2 _ y u hy hu
          · rw [List.getElem?_append_right (by omega), List.getElem?_drop] at hy hu
            rw [hul] at hu
            exact hold _ y u hy hu
    · rw [if_neg e] at hr
      obtain ⟨c1, c2, ty', vs', c3, c4, c5⟩ := h.bx i r hr
      have hne : g.β i ≠ g.β id := fun q => e (h.binj i id (by rw [hr]; rfl) (by rw [hb]; rfl) q)
      have hev' := c5.ev ev
      rw [scC_all_map] at hev'
      exact ⟨c1, c2, ty', vs', (setRow_other _ _ _ _ hne).trans c3, c4, hev'⟩
  · have key : ∀ i, ((σ.setB id (lay row off xs)).b i).isSome → (σ.b i).isSome := by
      intro i hi
      simp only [St.setB] at hi
      by_cases e : i = id
      · rw [e, hb]; rfl
      · rwa [if_neg e] at hi
    exact h.binj i j (key i hi) (key j hj)
  · refine h.bt i tok ?_
    simp only [St.setB] at hi
    by_cases e : i = id
    · rw [e, hb]; rfl
    · rwa [if_neg e] at hi
end Go.Proofs.Ythmedgipfdoneaa

/- The engine, seventh part: literal slices, append. -/
namespace Go.Proofs.Ythmedgipfdoneaa
set_option linter.unusedVariables false
set_option linter.unusedSimpArgs false
open Go.RowKit
theorem drew_cell (w : World) (p : Addr) : w.drew.cell? p = w.cell? p := rfl
/-- a world with one block more, the seal grown there alone, the token there. -/
theorem Rel.fresh {x : Cx} {g : Gh} {σ : St} {a : Act} {w w1 : World} (h : Rel x g σ a w) (hd : w1 = w ∨ w1 = w.drew) (cs : Array Value) (e tok m : Nat) :
    Ev (pNot tok) pAll g ⟨g.β, fun t => if t = tok then some w.heap.size else g.τ t, fun b o => g.S b o ∨ (b = w.heap.size ∧ o < m)⟩ w (w1.alloc (.cells cs e)) ∧
    Rel x ⟨g.β, fun t => if t = tok then some w.heap.size else g.τ t, fun b o => g.S b o ∨ (b = w.heap.size ∧ o < m)⟩ (σ.sc (pNot tok) pAll) a (w1.alloc (.cells cs e)) := by
  have hb1 : Below x.B w w1 := by rcases hd with rfl | rfl; exact Below.refl _ _; exact (Below.refl _ _).drew
  have hs1 : w1.heap = w.heap := by rcases hd with rfl | rfl <;> rfl
  have hold : ∀ b, b < w.heap.size → (w1.alloc (.cells cs e)).heap[b]? = w.heap[b]? := fun b hb => by rw [Below.heap_alloc _ _ _ (by rw [hs1]; exact hb), hs1]
  have ev : Ev (pNot tok) pAll g ⟨g.β, fun t => if t = tok then some w.heap.size else g.τ t, fun b o => g.S b o ∨ (b = w.heap.size ∧ o < m)⟩ w (w1.alloc (.cells cs e)) := by
    refine ⟨⟨fun _ _ q => .inl q, fun b o q => ?_⟩, fun t ht => ⟨?_, fun b hb => ⟨hold b (h.tlt t b hb).2, fun o => ⟨fun q => ?_, .inl⟩⟩⟩, fun i _ => rfl⟩
    · simp only [World.cell?, hold b (h.new b o q)]
    · simp only [pNot, bne_iff_ne, ne_eq] at ht
      simp [ht]
    · rcases q with q | ⟨q, _⟩
      · exact q
      · have := (h.tlt t b hb).2; omega
  refine ⟨ev, h.ev ev (hb1.trans ((Below.refl _ _).alloc (by rw [hs1]; exact h.base) _)) (fun i _ hs => ?_) (fun b o hb => ⟨fun q => ?_, .inl⟩) (fun b o q => ?_) (fun i j b hi hj => ?_) (fun i b hi => ?_)⟩
  · obtain ⟨row, hr⟩ := Option.isSome_iff_exists.1 hs
    obtain ⟨b1, b2, ty, us, hh, -⟩ := h.bx i row hr
    have hlt : g.β i < w.heap.size := by
      rcases Nat.lt_or_ge (g.β i) w.heap.size with q | q
      · exact q
      · rw [Array.getElem?_eq_none q] at hh; cases hh
    refine ⟨hold _ hlt, fun o q => ?_, fun t q => ?_⟩
    · rcases q with q | ⟨q, _⟩
      · exact b2 o q
      · omega
    · simp only at q
      split at q
      · injection q with q; omega
      · exact h.bt i t hs q
  · rcases q with q | ⟨q, _⟩
    · exact q
    · have := h.base; omega
  · rw [alloc_size, hs1]
    rcases q with q | ⟨q, _⟩
    · have := h.new b o q; omega
    · omega
  · simp only at hi hj
    split at hi <;> split at hj
    · omega
    · injection hi with hi; have := (h.tlt j b hj).2; omega
    · injection hj with hj; have := (h.tlt i b hi).2; omega
    · exact h.tinj i j b hi hj
  · rw [alloc_size, hs1]
    simp only at hi
    split at hi
    · injection hi with hi; have := h.base; omega
    · have := h.tlt i b hi; omega
/-- the cells of rows. -/
def RepRows (S : Seal) (w : World) (k : Nat) (rows : List (List D)) (vals : List Value) : Prop :=
  vals.length = rows.length * k ∧ (∀ (i : Nat) (row : List D), rows[i]? = some row → row.length = k) ∧ (∀ u ∈ vals, u.oneCell' = true) ∧
  ∀ (i j : Nat) (row : List D) (d : D), rows[i]? = some row → row[j]? = some d → ∃ u, vals[i * k + j]? = some u ∧ Rep S w d u
theorem RepRows.mono {S S' : Seal} {w w' : World} (hk : Kp S S' w w') {k : Nat} {rows : List (List D)} {vals : List Value} (h : RepRows S w k rows vals) : RepRows S' w' k rows vals :=
  ⟨h.1, h.2.1, h.2.2.1, fun i j row d q1 q2 => let ⟨u, hu, hr⟩ := h.2.2.2 i j row d q1 q2; ⟨u, hu, hr.mono hk⟩⟩
theorem RepRows.append {S : Seal} {w : World} {k : Nat} {rows rows' : List (List D)} {vals vals' : List Value} (h : RepRows S w k rows vals) (h' : RepRows S w k rows' vals') : RepRows S w k (rows ++ rows') (vals ++ vals') := by
  obtain ⟨a1, a2, a3, a4⟩ := h
  obtain ⟨b1, b2, b3, b4⟩ := h'
  refine ⟨by rw [List.length_append, List.length_append, a1, b1, Nat.add_mul], fun i row hi => ?_, fun u hu => ?_, fun i j row d hi hj => ?_⟩
  · rcases Nat.lt_or_ge i rows.length with q | q
    · rw [List.getElem?_append_left q] at hi; exact a2 i row hi
    · rw [List.getElem?_append_right q] at hi; exact b2 _ row hi
  · rcases List.mem_append.1 hu with hu | hu
    · exact a3 u hu
    · exact b3 u hu
  · rcases Nat.lt_or_ge i rows.length with q | q
    · rw [List.getElem?_append_left q] at hi
      obtain ⟨u, hu, hr⟩ := a4 i j row d hi hj
      exact ⟨u, by rw [List.getElem?_append_left (List.getElem?_eq_some_iff.1 hu).1]; exact hu, hr⟩
    · rw [List.getElem?_append_right q] at hi
      obtain ⟨u, hu, hr⟩ := b4 _ j row d hi hj
      refine ⟨u, ?_, hr⟩
      have : rows.length * k ≤ i * k := Nat.mul_le_mul_right _ q
      rw [List.getElem?_append_right (by omega), a1, show i * k + j - rows.length * k = (i - rows.length) * k + j by rw [Nat.sub_mul]; omega]
      exact hu
theorem Rep.vals {S : Seal} {w : World} {k : Nat} {rows : List (List D)} {a : Option Addr} {n c : Nat} (h : Rep S w (.sl k rows) (.slice a n c)) (hk : 0 < k) (hn : 0 < rows.length) :
    ∃ ad vals, a = some ad ∧ n = rows.length ∧ RepRows S w k rows vals ∧ ∀ j v, vals[j]? = some v → w.cell? (ad.add j) = some v := by
  cases h with
  | sl0 _ => simp at hn
  | @sl _ _ b off c us c1 c2 c3 c4 c5 =>
    let vals := (List.range (rows.length * k)).map fun q => us (q / k) (q % k)
    have hdiv : ∀ i j, j < k → (i * k + j) / k = i ∧ (i * k + j) % k = j := by
      intro i j hj
      constructor
      · rw [Nat.add_comm, Nat.add_mul_div_right _ _ hk, Nat.div_eq_of_lt hj, Nat.zero_add]
      · rw [Nat.add_comm, Nat.add_mul_mod_self_right, Nat.mod_eq_of_lt hj]
    have hat : ∀ q, q < rows.length * k → ∃ (row : List D) (d : D), rows[q / k]? = some row ∧ row[q % k]? = some d := by
      intro q hq
      have h1 : q / k < rows.length := (Nat.div_lt_iff_lt_mul hk).2 hq
      have h2 := c3 _ _ (List.getElem?_eq_getElem h1)
      have h3 : q % k < (rows[q / k]).length := by rw [h2]; exact Nat.mod_lt _ hk
      exact ⟨_, _, List.getElem?_eq_getElem h1, List.getElem?_eq_getElem h3⟩
    refine ⟨_, vals, rfl, rfl, ⟨by simp [vals], c3, fun u hu => ?_, fun i j row d hi hj => ?_⟩, fun q v hq => ?_⟩
    · obtain ⟨q, hq, rfl⟩ := List.mem_map.1 hu
      obtain ⟨row, d, r1, r2⟩ := hat q (List.mem_range.1 hq)
      exact (c5 _ _ row d r1 r2).one
    · have hjk : j < k := by rw [← c3 i row hi]; exact (List.getElem?_eq_some_iff.1 hj).1
      have hik := (List.getElem?_eq_some_iff.1 hi).1
      have hlt : i * k + j < rows.length * k := by
        have : (i + 1) * k ≤ rows.length * k := Nat.mul_le_mul_right _ hik
        rw [Nat.add_mul, Nat.one_mul] at this; omega
      refine ⟨us i j, ?_, c5 i j row d hi hj⟩
      simp [vals, hlt, hdiv i j hjk]
    · have hlt : q < rows.length * k := by
        rcases Nat.lt_or_ge q (rows.length * k) with r | r
        · exact r
        · rw [List.getElem?_eq_none (by simpa [vals] using r)] at hq; cases hq
      have hv : us (q / k) (q % k) = v := by simpa [vals, hlt] using hq
      subst hv
      obtain ⟨row, d, r1, r2⟩ := hat q hlt
      have := (c4 _ _ row d r1 r2).2
      rw [Nat.add_assoc, show q / k * k + q % k = q by rw [Nat.mul_comm]; exact Nat.div_add_mod q k] at this
      rw [add_lit]; exact this
/-- a literal slice. -/
theorem Rel.lit {x : Cx} {g : Gh} {σ : St} {a : Act} {w : World} (h : Rel x g σ a w) (d e k : Nat) (rows : List (List D)) (vals : List Value) (hv : RepRows g.S w k rows vals) (hm : rows.length ≤ maxLen) :
    ∃ g', Rel x g' (σ.sc (pNot d) pAll) a (w.alloc (.cells vals.toArray e)) ∧ OwnR x.B g' (w.alloc (.cells vals.toArray e)) e k rows d (.slice (some ⟨w.heap.size, 0, none⟩) rows.length rows.length) ∧ ∀ b o, g'.S b o ↔ g.S b o ∨ (b = w.heap.size ∧ o < rows.length * k) := by
  obtain ⟨ev, hr⟩ := h.fresh (.inl rfl) vals.toArray e d (rows.length * k)
  refine ⟨_, hr, ⟨vals, ⟨hv.1, .inr ⟨w.heap.size, rows.length, vals.toArray, rfl, h.base, alloc_at _ _, Nat.le_refl _, hm, by simpa using hv.1, by simp [List.take_of_length_le, hv.1]⟩⟩, by simp [Value.ownBlock], hv.2.1, hv.2.2.1, (hv.mono ev.kp).2.2.2, fun b hb o => ?_⟩, fun _ _ => Iff.rfl⟩
  injection hb with hb
  subst hb
  exact ⟨fun q => by rcases q with q | ⟨_, q⟩; exact absurd (h.new _ _ q) (Nat.lt_irrefl _); exact q, fun q => .inr ⟨rfl, q⟩⟩
theorem OwnR.rows {B : Nat} {g : Gh} {w : World} {e k : Nat} {rows : List (List D)} {tok : Nat} {v : Value} (h : OwnR B g w e k rows tok v) : ∃ xs, RepRows g.S w k rows xs ∧ w.ownsRow B e k v rows.length xs := by
  obtain ⟨xs, h1, h3, h4, h5, h6, h7⟩ := h
  exact ⟨xs, ⟨h1.1, h4, h5, h6⟩, h1⟩
/-- nothing appended. -/
theorem run_append_zero {P : Program} (w : World) (t ty e : TypeId) (i : TypeInfo) (ht : P.underlying t = some (.slice e)) (hi : P.info? e = some i) (base : Option Addr) (n cap : Nat) (hn : n ≤ cap) (a : Option Addr) (c : Nat) :
    (Builtin.append_ #[t, t] ty #[.slice base n cap, .slice a 0 c]).run P w = .ok (.slice base n cap) w := by
  cases a <;> cases base <;> simp [Builtin.append_, run_underlying ht, sizeOf, typeInfo, hi, Builtin.lenOf, Builtin.firstCells, loadCells, loadCellsFrom, storeCells, hn]
/-- a nil slice may be the call's own. -/
theorem Rel.nilTok {x : Cx} {g : Gh} {σ : St} {a : Act} {w : World} (h : Rel x g σ a w) (d e k : Nat) :
    ∃ g', Kp g.S g'.S w w ∧ Rel x g' (σ.sc (pNot d) pAll) a w ∧ OwnR x.B g' w e k [] d (.slice none 0 0) := by
  have ev : Ev (pNot d) pAll g ⟨g.β, fun t => if t = d then none else g.τ t, g.S⟩ w w := by
    refine ⟨Kp.refl _ _, fun t ht => ⟨?_, fun b _ => ⟨rfl, fun _ => Iff.rfl⟩⟩, fun i _ => rfl⟩
    simp only [pNot, bne_iff_ne, ne_eq] at ht
    simp [ht]
  refine ⟨⟨g.β, fun t => if t = d then none else g.τ t, g.S⟩, Kp.refl _ _, h.ev ev (Below.refl _ _) (fun i _ hs => ⟨rfl, ?_, fun t q => ?_⟩) (fun _ _ _ => Iff.rfl) h.new (fun i j b hi hj => ?_) (fun i b hi => ?_), [], ⟨by simp, .inl ⟨rfl, rfl⟩⟩, by simp [Value.ownBlock], by simp, by simp, by simp, fun b hb => by cases hb⟩
  · obtain ⟨row, hr⟩ := Option.isSome_iff_exists.1 hs
    exact (h.bx i row hr).2.1
  · simp only at q
    split at q
    · cases q
    · exact h.bt i t hs q
  · simp only at hi hj
    split at hi
    · cases hi
    · split at hj
      · cases hj
      · exact h.tinj i j b hi hj
  · simp only at hi
    split at hi
    · cases hi
    · exact h.tlt i b hi
set_option maxHeartbeats 1000000 in
/-- append. -/
theorem Rel.append {x : Cx} {g : Gh} {σ : St} {a : Act} {w : World} (h : Rel x g σ a w) {t ty e k by_ : Nat} {z : List D} (hk : tk x.P t = .sl e k by_ z) {rows rows' : List (List D)} {tok : Nat} {v u : Value}
    (hv : OwnR x.B g w e k rows tok v) (hu : Rep g.S w (.sl k rows') u) (hroom : (rows.length + rows'.length) * by_ ≤ 140737488355328) (hmax : rows.length + rows'.length ≤ maxLen) :
    ∃ v' w' g', (Builtin.append_ #[t, t] ty #[v, u]).run x.P w = .ok v' w' ∧ Rel x g' (σ.sc (pNot tok) pAll) a w' ∧ OwnR x.B g' w' e k (rows ++ rows') tok v' := by
  obtain ⟨ht, i, zv, hi, hz, hsz, hby, hzs, hk0, hz1, -, -⟩ := tk_sl hk
  subst hsz
  obtain ⟨ua, uc, rfl, uc1, uc2⟩ := hu.sl_shape
  have hscRel : ∀ g', Ev pAll pAll g g' w w → True := fun _ _ => trivial
  rcases Nat.eq_zero_or_pos rows'.length with hm | hm
  · -- nothing to append
    have hr0 : rows' = [] := List.eq_nil_of_length_eq_zero hm
    subst hr0
    have hsame : Rel x g (σ.sc (pNot tok) pAll) a w := by
      have ev : Ev (pNot tok) pAll g g w w := ⟨Kp.refl _ _, fun t _ => ⟨rfl, fun b _ => ⟨rfl, fun _ => Iff.rfl⟩⟩, fun i _ => rfl⟩
      exact h.ev ev (Below.refl _ _) (fun i _ hs => ⟨rfl, by obtain ⟨row, hr⟩ := Option.isSome_iff_exists.1 hs; exact (h.bx i row hr).2.1, fun t => h.bt i t hs⟩) (fun _ _ _ => Iff.rfl) h.new h.tinj h.tlt
    obtain ⟨a', c', rfl, c1, -⟩ := (OwnR.rep hv).sl_shape
    refine ⟨_, w, g, run_append_zero w t ty e i ht hi a' rows.length c' c1 ua uc, hsame, ?_⟩
    rw [List.append_nil]; exact hv
  · obtain ⟨ad, news, rfl, -, hnews, hcells⟩ := hu.vals hk0 hm
    obtain ⟨xs, h1, h3, h4, h5, h6, h7⟩ := hv
    have hrows : RepRows g.S w i.size rows xs := ⟨h1.1, h4, h5, h6⟩
    have hall := hrows.append hnews
    have hsmall : rows.length + rows'.length ≤ 9223372036854775807 := by simp only [maxLen] at hmax; omega
    -- a new block
    have grown : ∀ (old : Nat), old < rows.length + rows'.length → ∃ g',
        Rel x g' (σ.sc (pNot tok) pAll) a (w.drew.alloc (.cells (xs.toArray ++ news.toArray ++ Builtin.zeroCells zv.cells (grownCap w (rows.length + rows'.length) old e - (rows.length + rows'.length))) e)) ∧
        OwnR x.B g' (w.drew.alloc (.cells (xs.toArray ++ news.toArray ++ Builtin.zeroCells zv.cells (grownCap w (rows.length + rows'.length) old e - (rows.length + rows'.length))) e)) e i.size (rows ++ rows') tok
          (.slice (some ⟨w.heap.size, 0, none⟩) (rows.length + rows'.length) (grownCap w (rows.length + rows'.length) old e)) := by
      intro old ho
      have hge := grownCap_ge w (rows.length + rows'.length) old e
      have hcm : grownCap w (rows.length + rows'.length) old e ≤ maxLen := grownCap_le_maxLen w (rows.length + rows'.length) old e hmax
      obtain ⟨ev, hr⟩ := h.fresh (.inr rfl) (xs.toArray ++ news.toArray ++ Builtin.zeroCells zv.cells (grownCap w (rows.length + rows'.length) old e - (rows.length + rows'.length))) e tok ((rows ++ rows').length * i.size)
      have hall' := hall.mono ev.kp
      have hlen : (xs ++ news).length = (rows.length + rows'.length) * i.size := by rw [hall.1, List.length_append]
      refine ⟨_, hr, xs ++ news, ⟨hall.1, .inr ⟨w.heap.size, _, _, by rw [List.length_append], h.base, heap_alloc_new w.drew _, by rw [List.length_append]; exact hge, hcm, ?_, ?_⟩⟩, by simp [Value.ownBlock], hall'.2.1, hall'.2.2.1, hall'.2.2.2, fun b hb o => ?_⟩
      · simp only [Array.size_append, List.size_toArray, size_zeroCells, hzs, h1.1, hnews.1, ← Nat.add_mul]
        congr 1
        omega
      · simp only [Array.toList_append, List.append_assoc]
        rw [← List.append_assoc, ← hall.1]
        exact List.take_left
      · injection hb with hb
        subst hb
        exact ⟨fun q => by rcases q with q | ⟨_, q⟩; exact absurd (h.new _ _ q) (Nat.lt_irrefl _); exact q, fun q => .inr ⟨rfl, q⟩⟩
    rcases h1.2 with ⟨rfl, hn0⟩ | ⟨b, cap, cur, rfl, hbb, hh, hnc, hcm, hcs, htake⟩
    · have hx : xs = [] := List.eq_nil_of_length_eq_zero (by rw [h1.1, hn0]; simp)
      have hr0 : rows = [] := List.eq_nil_of_length_eq_zero hn0
      subst hx hr0
      simp only [List.length_nil, Nat.zero_add] at *
      have hr := run_append_nil (P := x.P) w t ty e i zv ht hi hz ad rows'.length uc news hnews.1 hcells hm (by omega) (by rw [hby]; omega)
      obtain ⟨g', q1, q2⟩ := grown 0 hm
      rw [Array.empty_append] at q1 q2
      exact ⟨_, _, g', hr, q1, q2⟩
    · by_cases hfit : rows.length + rows'.length ≤ cap
      · have hfit' : rows.length * i.size + news.length ≤ cur.size := by rw [hnews.1, hcs, ← Nat.add_mul]; exact Nat.mul_le_mul_right _ hfit
        have hr := run_append_room (P := x.P) w t ty e i ht hi b rows.length cap cur hh ad rows'.length uc news hnews.1 hcells hnews.2.2.1 hfit hfit'
        generalize hnew : (cur.toList.take (rows.length * i.size) ++ news ++ cur.toList.drop (rows.length * i.size + news.length)).toArray = cs at hr
        have htok : g.τ tok = some b := by rw [← h3]; rfl
        have hS := h7 b rfl
        have hcell : ∀ o, o < rows.length * i.size → (w.setRow b cs).cell? ⟨b, o, none⟩ = w.cell? ⟨b, o, none⟩ := by
          intro o ho
          rw [cell_setRow_same w b o cur cs e (0, 0) hh]
          have : w.cell? ⟨b, o, none⟩ = cur[o]? := by simp only [World.cell?, hh]; rw [if_neg (by simp)]
          rw [this, ← hnew]
          have hl : (cur.toList.take (rows.length * i.size)).length = rows.length * i.size := by have hcl : cur.toList.length = cur.size := Array.length_toList; rw [List.length_take, hcl]; omega
          rw [List.getElem?_toArray, List.append_assoc, List.getElem?_append_left (by rw [hl]; exact ho), List.getElem?_take_of_lt ho, Array.getElem?_toList]
        have ev : Ev (pNot tok) pAll g ⟨g.β, g.τ, fun c o => g.S c o ∨ (c = b ∧ o < (rows ++ rows').length * i.size)⟩ w (w.setRow b cs) := by
          refine ⟨⟨fun _ _ q => .inl q, fun c o q => ?_⟩, fun t' ht' => ⟨rfl, fun c hc => ?_⟩, fun i _ => rfl⟩
          · by_cases e' : c = b
            · subst e'; exact hcell o ((hS o).1 q)
            · exact cell_setRow_other _ _ _ _ e'
          · simp only [pNot, bne_iff_ne, ne_eq] at ht'
            have hne : c ≠ b := fun e' => ht' (h.tinj t' tok b (e' ▸ hc) htok)
            exact ⟨setRow_other _ _ _ _ hne, fun o => ⟨fun q => q.elim id (fun q => absurd q.1 hne), .inl⟩⟩
        have hall' := hall.mono ev.kp
        refine ⟨_, _, _, hr, h.ev ev ⟨rfl, rfl, rfl, by simp, fun c hc => setRow_other _ _ _ _ (by omega)⟩ (fun i' _ hs => ?_) (fun c o hc => ⟨fun q => q.elim id (fun q => by omega), .inl⟩) (fun c o q => ?_) h.tinj (fun i' c q => by simpa using h.tlt i' c q), xs ++ news, ⟨hall.1, .inr ⟨b, cap, cs, by rw [List.length_append], hbb, setRow_heap w b cur _ e _ hh, by rw [List.length_append]; exact hfit, hcm, ?_, ?_⟩⟩, by rw [htok]; rfl, hall'.2.1, hall'.2.2.1, hall'.2.2.2, fun c hc o => ?_⟩
        · obtain ⟨row, hrw⟩ := Option.isSome_iff_exists.1 hs
          obtain ⟨b1, b2, -⟩ := h.bx i' row hrw
          have hne : g.β i' ≠ b := fun e' => h.bt i' tok hs (by rw [htok, e'])
          exact ⟨setRow_other _ _ _ _ hne, fun o q => q.elim (b2 o) (fun q => hne q.1), fun t' => h.bt i' t' hs⟩
        · rw [setRow_size]
          rcases q with q | ⟨q, _⟩
          · exact h.new c o q
          · subst q; exact (h.tlt tok _ htok).2
        · rw [← hnew]
          simp only [List.size_toArray, List.length_append, List.length_take, List.length_drop, Array.length_toList]
          omega
        · rw [← hnew, htake, ← hall.1]
          exact List.take_left
        · injection hc with hc
          subst hc
          refine ⟨fun q => q.elim (fun q => ?_) (fun q => q.2), fun q => .inr ⟨rfl, q⟩⟩
          have := (hS o).1 q
          have h' : rows.length * i.size ≤ (rows ++ rows').length * i.size := Nat.mul_le_mul_right _ (by simp)
          omega
      · have holds : ∀ j u, xs[j]? = some u → w.cell? ((⟨b, 0, none⟩ : Addr).add j) = some u := World.ownsRow.cells h1 (g := b) rfl
        have hr := run_append_grow (P := x.P) w t ty e i zv ht hi hz ⟨b, 0, none⟩ rows.length cap xs h1.1 holds ad rows'.length uc news hnews.1 hcells (by omega) (by omega) (growslice_fits (by omega) (by rw [hby]; exact hroom))
        obtain ⟨g', q1, q2⟩ := grown cap (by omega)
        exact ⟨_, _, g', hr, q1, q2⟩
end Go.Proofs.Ythmedgipfdoneaa

/- The engine, eighth part: operations that make or change memory. -/
namespace Go.Proofs.Ythmedgipfdoneaa
set_option linter.unusedVariables false
set_option linter.unusedSimpArgs false
open Go.RowKit
theorem lay_foldl : ∀ (vs : List Value) (cs : Array Value) (off k : Nat), off + k + vs.length ≤ cs.size →
    ((vs.zipIdx k).foldl (fun cs (p : Value × Nat) => cs.setIfInBounds (off + p.2) p.1) cs).toList = lay cs.toList (off + k) vs
  | [], cs, off, k, h => by simp [lay]
  | v :: vs, cs, off, k, h => by
    simp only [List.length_cons] at h
    rw [List.zipIdx_cons, List.foldl_cons, lay_foldl vs _ off (k + 1) (by simp; omega)]
    unfold lay
    have hl : off + k < cs.toList.length := by rw [Array.length_toList]; omega
    rw [Array.toList_setIfInBounds, List.length_cons, show off + (k + 1) = off + k + 1 by omega, show off + k + (vs.length + 1) = off + k + 1 + vs.length by omega]
    rw [List.drop_set_of_lt (by omega), List.take_add_one, List.getElem?_set_self hl, List.take_set, List.set_eq_of_length_le (by simp; exact Nat.min_le_left _ _)]
    simp
theorem fill_step {place : Nat → Option (Nat × Nat)} {cells : Array Value} {i off sz : Nat} {v : Value} {rest : List (Nat × Value)} (hp : place i = some (off, sz)) (h1 : v.cells.size = sz) (h2 : off + sz ≤ cells.size) :
    Instr.fill place cells ((i, v) :: rest) = Instr.fill place (lay cells.toList off v.cells.toList).toArray rest := by
  have hf : (v.cells.zipIdx.foldl (fun cs (p : Value × Nat) => cs.setIfInBounds (off + p.2) p.1) cells) = (lay cells.toList off v.cells.toList).toArray := by
    apply Array.ext'
    have hl : v.cells.toList.length = v.cells.size := Array.length_toList
    have := lay_foldl v.cells.toList cells off 0 (by omega)
    rw [← Array.foldl_toList, Array.toList_zipIdx]
    exact this
  simp only [Instr.fill, hp]
  rw [if_neg (by simp only [ne_eq, Bool.or_eq_true, decide_eq_true_eq]; omega)]
  rw [← hf]
def eC : E → Option C
  | .d x => some (.d x)
  | .own e k rows t => some (.own e k rows t)
  | _ => none
theorem eC_ok {B : Nat} {g : Gh} {w : World} {y : E} {c : C} {v : Value} (h : eC y = some c) (hv : RE B g w y v) : RC B g w c v := by
  unfold eC at h
  split at h
  · injection h with h; subst h; exact hv
  · injection h with h; subst h; exact hv
  · cases h
theorem RC.one {B : Nat} {g : Gh} {w : World} {y : C} {v : Value} (h : RC B g w y v) : v.oneCell' = true := by
  cases y with
  | d x => exact Rep.one h
  | own e k rows t => exact (OwnR.rep h).one
theorem one_cells {v : Value} (h : v.oneCell' = true) : v.cells = #[v] := by cases v <;> first | rfl | (simp [Value.oneCell'] at h)
/-- the cells of a part, however they come. -/
def cellsE : E → Option (List C)
  | .ag xs => some xs
  | y => (eC y).map fun c => [c]
theorem RCs.one {B : Nat} {g : Gh} {w : World} {ys : List C} {us : List Value} (h : RCs B g w ys us) : ∀ u ∈ us, u.oneCell' = true := by
  intro u hu
  obtain ⟨j, hj, rfl⟩ := List.getElem_of_mem hu
  exact (h.2 j (ys[j]'(by rw [← h.1]; exact hj)) us[j] (by rw [List.getElem?_eq_getElem]) (by rw [List.getElem?_eq_getElem])).one
theorem cellsE_ok {B : Nat} {g : Gh} {w : World} {y : E} {cs : List C} {v : Value} (h : cellsE y = some cs) (hv : RE B g w y v) : RCs B g w cs v.cells.toList := by
  have key : ∀ c, eC y = some c → RCs B g w [c] v.cells.toList := by
    intro c hc
    have hr := eC_ok hc hv
    rw [one_cells hr.one]
    refine ⟨rfl, fun j z u a b => ?_⟩
    cases j with
    | zero => simp at a b; subst a b; exact hr
    | succ j => simp at a
  unfold cellsE at h
  split at h
  · injection h with h; subst h
    obtain ⟨us, rfl, hus⟩ := hv
    exact hus
  · cases hc : eC y with
    | none => rw [hc] at h; cases h
    | some c => rw [hc] at h; injection h with h; subst h; exact key c hc
/-- a struct by value. -/
def aFill (σ : St) (fs : List (Nat × Nat × Bool)) : List C → List (Nat × Operand) → Option (Prop × List C)
  | cells, [] => some (True, cells)
  | cells, (i, x) :: rest => match fs[i]?, cellsE (bodyT (ev σ x)) with
    | some (off, sz, _), some xs => match aFill σ fs (lay cells off xs) rest with
      | some (ob, r) => some (oblT (ev σ x) ∧ xs.length = sz ∧ off + sz ≤ cells.length ∧ ob, r)
      | none => none
    | _, _ => none
theorem RCs.layOn {B : Nat} {g : Gh} {w : World} {ys xs : List C} {us vs : List Value} (h : RCs B g w ys us) (k : RCs B g w xs vs) (off : Nat) (hl : off + xs.length ≤ ys.length) : RCs B g w (lay ys off xs) (lay us off vs) := by
  have h1 := h.1
  have k1 := k.1
  refine ⟨by unfold lay; simp [h1, k1], fun j y u hy hu => ?_⟩
  unfold lay at hy hu
  have t1 : (ys.take off).length = off := by rw [List.length_take]; omega
  have t2 : (us.take off).length = off := by rw [List.length_take]; omega
  rcases Nat.lt_or_ge j off with q | q
  · rw [List.append_assoc, List.getElem?_append_left (by omega), List.getElem?_take_of_lt q] at hy hu
    exact h.2 j y u hy hu
  · rw [List.append_assoc, List.getElem?_append_right (by omega)] at hy hu
    rw [t1] at hy
    rw [t2] at hu
    rcases Nat.lt_or_ge (j - off) xs.length with r | r
    · rw [List.getElem?_append_left (by omega)] at hy hu
      exact k.2 _ y u hy hu
    · rw [List.getElem?_append_right (by omega), List.getElem?_drop] at hy hu
      rw [k1] at hu
      exact h.2 _ y u hy hu
theorem aFill_ok {x : Cx} {g : Gh} {σ : St} {a : Act} {w : World} (hr : Rel x g σ a w) {fs : List (Nat × Nat × Bool)} {place : Nat → Option (Nat × Nat)} (hpl : ∀ i off sz ag, fs[i]? = some (off, sz, ag) → place i = some (off, sz)) :
    ∀ (parts : List (Nat × Operand)) (cells : List C) (cs : Array Value) (ob : Prop) (r : List C), aFill σ fs cells parts = some (ob, r) → ob → RCs x.B g w cells cs.toList →
      ∃ cs', Instr.fill place cs (parts.map fun p => (p.1, a.eval p.2)) = some cs' ∧ RCs x.B g w r cs'.toList
  | [], cells, cs, ob, r, h, ho, hc => by
    injection h with h; injection h with e1 e2
    subst e2
    exact ⟨cs, rfl, hc⟩
  | (i, y) :: rest, cells, cs, ob, r, h, ho, hc => by
    unfold aFill at h
    split at h
    · rename_i off sz ag xs hf hx
      split at h
      · rename_i ob' r' h'
        injection h with h; injection h with e1 e2
        subst e1 e2
        obtain ⟨o1, o2, o3, o4⟩ := ho
        have hb := cellsE_ok hx (body_ok (ev_ok hr y) o1)
        have hl : cs.size = cells.length := by have := hc.1; rwa [Array.length_toList] at this
        have hvl : (a.eval y).cells.size = xs.length := by have := hb.1; rwa [Array.length_toList] at this
        have hlay := hc.layOn hb off (by omega)
        obtain ⟨cs', r1, r2⟩ := aFill_ok hr hpl rest _ (lay cs.toList off (a.eval y).cells.toList).toArray ob' r' h' o4 (by simpa using hlay)
        refine ⟨cs', ?_, r2⟩
        rw [List.map_cons, fill_step (v := a.eval y) (hpl i off sz ag hf) (by omega) (by omega)]
        exact r1
      · cases h
    · cases h
theorem RCs.ofD {B : Nat} {g : Gh} {w : World} {ds : List D} {us : List Value} (h : RepL g.S w ds us) : RCs B g w (ds.map .d) us := by
  refine ⟨by simp [h.1], fun j y u hy hu => ?_⟩
  rw [List.getElem?_map] at hy
  cases hj : ds[j]? with
  | none => rw [hj] at hy; cases hy
  | some d => rw [hj] at hy; injection hy with hy; subst hy; exact h.2 j d u hj hu
theorem dv_repL (S : Seal) (w : World) (us : List Value) (h : ∀ u ∈ us, u.oneCell' = true) : RepL S w (us.map dv) us := by
  refine ⟨by simp, fun j d u hd hu => ?_⟩
  rw [List.getElem?_map, hu] at hd
  injection hd with hd
  subst hd
  exact dv_rep _ _ _ (h u (List.mem_of_getElem? hu))
def aBuild (P : Program) (σ : St) (t : TypeId) (parts : Array (Nat × Operand)) : Option (Prop × E) := match tk P t with
  | .st _ fs z => match aFill σ fs (z.map .d) parts.toList with
    | some (ob, r) => some (ob, .ag r)
    | none => none
  | _ => none
theorem aBuild_ok {x : Cx} {g : Gh} {σ : St} {a : Act} {w : World} (hr : Rel x g σ a w) {t : TypeId} {parts : Array (Nat × Operand)} {ob : Prop} {y : E} (h : aBuild x.P σ t parts = some (ob, y)) (ho : ob) :
    ∃ r, (Instr.build t (parts.map fun (i, x) => (i, a.eval x))).run x.P w = .ok r w ∧ RE x.B g w y r := by
  unfold aBuild at h
  split at h
  · rename_i n fs z hk
    obtain ⟨fields, i, zv, a1, a2, a3, a4, a5, a6, a7, a8, a9⟩ := tk_st hk
    split at h
    · rename_i ob' r h'
      injection h with h; injection h with e1 e2
      subst e1 e2
      have hz : RCs x.B g w (z.map .d) zv.toList := by rw [a7]; exact RCs.ofD (dv_repL _ _ _ a6)
      have hm : fields.toList.mapM (fun f => (x.P.info? f.type).map fun i => (f.offset, i.size)) = some (fields.toList.map fun f => (f.offset, szT x.P f.type)) := by
        have key : ∀ l : List Field, (∀ f ∈ l, szT x.P f.type ≠ 0) → l.mapM (fun f => (x.P.info? f.type).map fun i => (f.offset, i.size)) = some (l.map fun f => (f.offset, szT x.P f.type)) := by
          intro l
          induction l with
          | nil => intro _; rfl
          | cons f l ih =>
            intro hl
            have hf := hl f (by simp)
            have hs : (x.P.info? f.type).map (fun i => (f.offset, i.size)) = some (f.offset, szT x.P f.type) := by
              unfold szT at hf ⊢
              cases hi : x.P.info? f.type with
              | none => rw [hi] at hf; exact absurd rfl hf
              | some i => rfl
            rw [List.mapM_cons, hs, ih (fun y hy => hl y (by simp [hy]))]; rfl
        exact key _ (fun f hf => (a9 f hf).1)
      obtain ⟨cs', r1, r2⟩ := aFill_ok hr (place := fun i => (fields.toList.map fun f => (f.offset, szT x.P f.type)).toArray[i]?) (fun i off sz ag hi => by
        rw [a8, List.getElem?_map] at hi
        rw [List.getElem?_toArray, List.getElem?_map]
        cases hj : fields.toList[i]? with
        | none => rw [hj] at hi; cases hi
        | some f =>
          rw [hj] at hi
          injection hi with hi
          injection hi with h1 h2
          injection h2 with h2 h3
          rw [← h1, ← h2]; rfl) parts.toList (z.map .d) zv ob' r h' ho hz
      refine ⟨.agg cs', run_build w t _ cs' ?_, cs'.toList, rfl, r2⟩
      unfold Program.built
      simp only [a2, a1, a4, hm, Value.cells]
      rw [← r1]
      congr 1
      simp
    · cases h
  · cases h
end Go.Proofs.Ythmedgipfdoneaa
