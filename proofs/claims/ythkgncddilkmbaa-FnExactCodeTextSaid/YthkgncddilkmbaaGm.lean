import Derived.Test.YthkgncddilkmbaaGl
/- The second engine, thirteenth part: contracts, and what a call does to the frame. -/
namespace Go.Proofs.Ythkgncddilkmbaa
set_option linter.unusedVariables false
set_option linter.unusedSimpArgs false
open Go.RowKit
/-- an argument; what becomes of one that is given; an answer. -/
def RA (g : Gh) (w : World) (j : Nat) : D → Value → Prop
  | .ag xs, v => ∃ us : List Value, v = .agg us.toArray ∧ us.length = xs.length ∧ ∀ (l : Nat) (x : D) (u : Value), xs[l]? = some x → us[l]? = some u → Rep g.S g.up w (some (.par j l)) x u
  | d, v => Rep g.S g.up w (some (.par j 0)) d v
def RU (g : Gh) (w : World) (j : Nat) : D → Value → Prop
  | .un, _ => True
  | .ag xs, v => ∃ us : List Value, v = .agg us.toArray ∧ us.length = xs.length ∧ ∀ (l : Nat) (x : D) (u : Value), xs[l]? = some x → us[l]? = some u → x = .un ∨ Rep g.S g.up w (some (.par j l)) x u
  | d, v => Rep g.S g.up w (some (.par j 0)) d v
def RN (g : Gh) (w : World) (m : Nat) : D → Value → Prop
  | .un, _ => True
  | .ag xs, v => ∃ us : List Value, v = .agg us.toArray ∧ us.length = xs.length ∧ ∀ (l : Nat) (x : D) (u : Value), xs[l]? = some x → us[l]? = some u → Rep g.S g.up w (some (.ans m l)) x u
  | d, v => Rep g.S g.up w (some (.ans m 0)) d v
def RNs (g : Gh) (w : World) : D → Value → Prop
  | .tup xs, v => ∃ us : List Value, v = .tuple us.toArray ∧ us.length = xs.length ∧ ∀ (m : Nat) (x : D) (u : Value), xs[m]? = some x → us[m]? = some u → RN g w m x u
  | d, v => RN g w 0 d v
/-- what a function does, without worlds: the arguments (owned ones are given), what holds of the answer and of what was given. -/
structure FCon (P : Program) (f : FuncId) (args : List D) (Rs : D → List D → Prop) : Prop where
  ent : ∀ vs w, (callFunc f vs).run P w = .ok (.enter f vs) w
  run : ∀ (w : World) (g : Gh) (vs : List Value), (∀ b, g.S b → b < w.heap.size) → (∀ b p, g.up b = some p → b < w.heap.size ∧ ¬ g.S b) → vs.length = args.length → (∀ (j : Nat) (d : D) (u : Value), args[j]? = some d → vs[j]? = some u → RA g w j d u) →
    Calls P f vs.toArray w (fun e w' => ∃ v g' r outs, e = .returned v ∧ Below 0 w w' ∧ (∀ b, b < w.heap.size → g.up b = none → w'.heap[b]? = w.heap[b]?) ∧ (∀ b, g.S b → Gh.S g' b) ∧ (∀ b, b < w.heap.size → g'.S b → g.S b ∨ g.up b ≠ none) ∧ (∀ b, g'.S b → b < w'.heap.size) ∧
      (∀ b p, g'.up b = some p → b < w'.heap.size ∧ (b < w.heap.size → g.up b ≠ none) ∧ ¬ g'.S b) ∧ Rs r outs ∧ RNs g' w' r v ∧ ∀ (j : Nat) (d : D) (u : Value), outs[j]? = some d → vs[j]? = some u → RU g' w' j d u)
theorem FCon.mono {P : Program} {f : FuncId} {args : List D} {Rs Rs' : D → List D → Prop} (h : FCon P f args Rs) (hr : ∀ r o, Rs r o → Rs' r o) : FCon P f args Rs' := by
  refine ⟨h.ent, fun w g vs h1 h2 h3 h4 => (h.run w g vs h1 h2 h3 h4).mono ?_⟩
  rintro e w' ⟨v, g', r, o, a1, a2, a3, a4, a5, a6, a7, a8, a9⟩
  exact ⟨v, g', r, o, a1, a2, a3, a4, a5, a6, a7, hr r o a8, a9⟩
/-- data that hang on nothing frozen. -/
inductive Pure : D → Prop where
  | s (v : Value) : Pure (.s v)
  | nil : Pure .nil
  | np : Pure .np
  | un : Pure .un
  | osl {e k : Nat} {rows : List (List D)} : (∀ (i j : Nat) (row : List D) (d : D), rows[i]? = some row → row[j]? = some d → Pure d) → Pure (.osl e k rows)
  | opt {row : List D} : (∀ (j : Nat) (d : D), row[j]? = some d → Pure d) → Pure (.opt row)
  | ag {xs : List D} : (∀ (j : Nat) (d : D), xs[j]? = some d → Pure d) → Pure (.ag xs)
  | tup {xs : List D} : (∀ (j : Nat) (d : D), xs[j]? = some d → Pure d) → Pure (.tup xs)
theorem Rep.pmove {S S' : Nat → Prop} {up up' : Nat → Option Pos} {w w' : World} {π : Pos → Pos} (ow : ∀ b p, up b = some p → up' b = some (π p) ∧ w'.heap[b]? = w.heap[b]?) (st : ∀ b o, π (.cell b o) = .cell b o) {p : Option Pos} {d : D} {v : Value} (h : Rep S up w p d v) (hs : (∀ b, S b → S' b ∧ w'.heap[b]? = w.heap[b]?) ∨ Pure d) : Rep S' up' w' (p.map π) d v := by
  rcases hs with hs | hp
  · have m : Mv (fun _ => True) π ⟨fun _ => none, fun _ => 0, up, S⟩ ⟨fun _ => none, fun _ => 0, up', S'⟩ w w' := ⟨hs, fun b p hb _ => ow b p hb, fun b p o _ _ => ⟨trivial, st b o⟩⟩
    exact Rep.move (g := ⟨fun _ => none, fun _ => 0, up, S⟩) m h (fun _ _ => trivial)
  · induction h with
    | s h => exact .s h
    | nil => exact .nil
    | np => exact .np
    | sl0 h => cases hp
    | sl us h1 h2 h3 h4 _ ih => cases hp
    | pt us h1 _ ih => cases hp
    | fn us _ ih => cases hp
    | osl0 => exact .osl0
    | @osl p e k rows b c cs h1 h2 h3 h4 h5 h6 _ ih =>
      cases hp with
      | osl hp =>
        obtain ⟨m1, m2⟩ := ow b p h1
        refine .osl cs m1 (m2.trans h2) h3 h4 h5 h6 fun i j row d r1 r2 => ?_
        have := ih i j row d r1 r2 (hp i j row d r1 r2)
        rwa [Option.map_some, st] at this
    | @opt p row b ty cs h1 h2 h3 _ ih =>
      cases hp with
      | opt hp =>
        obtain ⟨m1, m2⟩ := ow b p h1
        refine .opt cs m1 (m2.trans h2) h3 fun j d r => ?_
        have := ih j d r (hp j d r)
        rwa [Option.map_some, st] at this
theorem Und.disj {up : Nat → Option Pos} {R R' : Nat → Prop} {b : Nat} (h : Und up R b) (h' : Und up R' b) : ∃ i, R i ∧ R' i := by
  induction h with
  | @root b i h1 h2 =>
    cases h' with
    | @root _ i' h3 h4 => rw [h1] at h3; injection h3 with h3; injection h3 with h3; subst h3; exact ⟨i, h2, h4⟩
    | cell h3 _ => rw [h1] at h3; injection h3 with h3; cases h3
  | @cell b b' o h1 h2 ih =>
    cases h' with
    | root h3 _ => rw [h1] at h3; injection h3 with h3; cases h3
    | @cell _ b'' o' h3 h4 => rw [h1] at h3; injection h3 with h3; injection h3 with h3 h5; subst h3; exact ih h4
/-! ### what is given, what is lent -/
abbrev Gv := Nat × Nat × Nat
def gvF : List Gv → Nat → Option (Nat × Nat)
  | [], _ => none
  | (i, j, l) :: r, n => if n = i then some (j, l) else gvF r n
def gvB : List Gv → Nat → Nat → Option Nat
  | [], _, _ => none
  | (i, j, l) :: r, j', l' => if j' = j ∧ l' = l then some i else gvB r j' l'
def gvN (gs : List Gv) : List Nat := gs.map fun p => p.1
def gvK (gs : List Gv) : List Nat := gs.map fun p => 1000 * p.2.1 + p.2.2
theorem gvF_mem {gs : List Gv} {n j l : Nat} (h : gvF gs n = some (j, l)) : (n, j, l) ∈ gs := by
  induction gs with
  | nil => cases h
  | cons p r ih =>
    obtain ⟨i, j', l'⟩ := p
    simp only [gvF] at h
    split at h
    · rename_i e; injection h with h; injection h with h1 h2; subst e h1 h2; simp
    · exact List.mem_cons_of_mem _ (ih h)
theorem gvF_of {gs : List Gv} (hn : nodB (gvN gs) = true) {n j l : Nat} (h : (n, j, l) ∈ gs) : gvF gs n = some (j, l) := by
  induction gs with
  | nil => cases h
  | cons p r ih =>
    obtain ⟨i, j', l'⟩ := p
    simp only [gvN, List.map_cons, nodB, Bool.and_eq_true] at hn
    simp only [gvF]
    rcases List.mem_cons.1 h with e | h
    · injection e with e1 e2; injection e2 with e2 e3; subst e1 e2 e3; rw [if_pos rfl]
    · rw [if_neg (fun e => pOut_spec hn.1 n (List.mem_map.2 ⟨_, h, rfl⟩) e.symm)]
      exact ih hn.2 h
theorem gvB_of {gs : List Gv} (hn : nodB (gvK gs) = true) {n j l : Nat} (h : (n, j, l) ∈ gs) : gvB gs j l = some n := by
  induction gs with
  | nil => cases h
  | cons p r ih =>
    obtain ⟨i, j', l'⟩ := p
    simp only [gvK, List.map_cons, nodB, Bool.and_eq_true] at hn
    simp only [gvB]
    rcases List.mem_cons.1 h with e | h2
    · injection e with e1 e2; injection e2 with e2 e3; subst e1 e2 e3; rw [if_pos ⟨rfl, rfl⟩]
    · rw [if_neg (fun e => by
        obtain ⟨rfl, rfl⟩ := e
        exact pOut_spec hn.1 (1000 * j + l) (List.mem_map.2 ⟨(n, j, l), h2, rfl⟩) rfl)]
      exact ih hn.2 h2
def pinG (gs : List Gv) : Pos → Pos
  | .root i => match gvF gs i with
    | some (j, l) => .par j l
    | none => .root i
  | p => p
/-- names of answers' memory. -/
def ansN (d m l : Nat) : Nat := 1000 * (20 * m + l + 1) + d
def poutG (gs : List Gv) (d : Nat) : Pos → Pos
  | .par j l => match gvB gs j l with
    | some i => .root i
    | none => .par j l
  | .ans m l => .root (ansN d m l)
  | p => p
/-- the callee's ghost. -/
noncomputable def calG (g : Gh) (gs : List Gv) (bs : List Nat) : Gh := by
  classical
  exact ⟨fun _ => none, fun _ => 0, fun b => if Und g.up (fun i => i ∈ gvN gs) b then (g.up b).map (pinG gs) else none, fun b => g.S b ∨ Und g.up (fun i => i ∈ bs) b⟩
section
variable {x : Cx} {g : Gh} {σ : St} {a : Act} {w : World}
theorem calG_S {gs : List Gv} {bs : List Nat} (b : Nat) : (calG g gs bs).S b ↔ g.S b ∨ Und g.up (fun i => i ∈ bs) b := Iff.rfl
theorem calG_in {gs : List Gv} {bs : List Nat} {b : Nat} (h : Und g.up (fun i => i ∈ gvN gs) b) : (calG g gs bs).up b = (g.up b).map (pinG gs) := by
  classical
  show (if _ then _ else _) = _
  rw [if_pos h]
theorem calG_out {gs : List Gv} {bs : List Nat} {b : Nat} : (calG g gs bs).up b ≠ none ↔ Und g.up (fun i => i ∈ gvN gs) b := by
  classical
  constructor
  · intro h
    have h : (if Und g.up (fun i => i ∈ gvN gs) b then (g.up b).map (pinG gs) else none) ≠ none := h
    by_cases q : Und g.up (fun i => i ∈ gvN gs) b
    · exact q
    · rw [if_neg q] at h; exact absurd rfl h
  · intro h
    rw [calG_in h]
    cases h with
    | root h' _ => rw [h']; simp
    | cell h' _ => rw [h']; simp
theorem Rel.und (h : Rel x g σ a w) {R : Nat → Prop} {b : Nat} (q : Und g.up R b) : b < w.heap.size ∧ (b < x.w0.heap.size → x.G b) ∧ ¬ g.S b := by
  cases q with
  | root h' _ => exact h.own b _ h'
  | cell h' _ => exact h.own b _ h'
theorem Rel.cal1 (h : Rel x g σ a w) (gs : List Gv) (bs : List Nat) : ∀ b, (calG g gs bs).S b → b < w.heap.size := fun b q => q.elim (h.new b) (fun q => (h.und q).1)
theorem Rel.cal2 (h : Rel x g σ a w) {gs : List Gv} {bs : List Nat} (hd : ∀ b ∈ bs, b ∉ gvN gs) : ∀ b p, (calG g gs bs).up b = some p → b < w.heap.size ∧ ¬ (calG g gs bs).S b := fun b p q => by
  have hu := (calG_out (g := g) (gs := gs) (bs := bs) (b := b)).1 (by rw [q]; simp)
  refine ⟨(h.und hu).1, fun r => r.elim (h.und hu).2.2 fun r => ?_⟩
  obtain ⟨i, i1, i2⟩ := hu.disj r
  exact hd i i2 i1
/-- a cell as the callee sees it. -/
theorem Rel.calCell (h : Rel x g σ a w) {gs : List Gv} {bs : List Nat} {c d : D} {ob : Prop} {u : Value} (hf : fdC σ c = some (ob, d)) (ho : ob) (hu : RC g w none c u) :
    (idC c = none → ∀ p, Rep (calG g gs bs).S (calG g gs bs).up w p d u) ∧ (∀ i j l, idC c = some i → (i, j, l) ∈ gs → nodB (gvN gs) = true → Rep (calG g gs bs).S (calG g gs bs).up w (some (.par j l)) d u) ∧ (∀ i, idC c = some i → i ∈ bs → ∀ p, Rep (calG g gs bs).S (calG g gs bs).up w p (frz d) u) := by
  rcases fdC_ok h hf ho hu with ⟨q1, q2⟩ | ⟨i, q1, q2⟩
  · refine ⟨fun _ p => ?_, fun i j l q => (by rw [q1] at q; cases q), fun i q => (by rw [q1] at q; cases q)⟩
    have m : Mv (fun _ => False) (fun p => p) g (calG g gs bs) w w := ⟨fun b hb => ⟨.inl hb, rfl⟩, fun b p _ q => q.elim, fun b p o _ q => q.elim⟩
    exact (Rep.move m q2 (fun q hq => by cases hq)).any p
  · refine ⟨fun q => (by rw [q1] at q; cases q), fun i' j l q hm hn => ?_, fun i' q hm p => ?_⟩
    · rw [q1] at q; injection q with q; subst q
      have m : Mv (PU g.up (fun i => i ∈ gvN gs)) (pinG gs) g (calG g gs bs) w w := by
        refine ⟨fun b hb => ⟨.inl hb, rfl⟩, fun b p hb hp => ⟨?_, rfl⟩, fun b p o hb hp => ⟨(und_iff hb).2 hp, rfl⟩⟩
        rw [calG_in ((und_iff hb).2 hp), hb]; rfl
      have := Rep.move m q2 (fun q hq => by injection hq with hq; subst hq; exact List.mem_map.2 ⟨_, hm, rfl⟩)
      simp only [Option.map_some, pinG, gvF_of hn hm] at this
      exact this
    · rw [q1] at q; injection q with q; subst q
      exact (q2.froz (S' := (calG g gs bs).S) (up' := (calG g gs bs).up) (R := fun i => i ∈ bs) (fun b => .inl) (fun b => .inr) (fun q hq => by injection hq with hq; subst hq; exact hm)).any p
end
/-! ### the frame behind a call -/
def cellV (v : Value) (l : Nat) : Value := match v with
  | .agg c => c.getD l undef
  | v => v
def compV (v : Value) (m : Nat) : Value := match v with
  | .tuple c => c.getD m undef
  | v => v
def cellD (d : D) (l : Nat) : Option D := match d with
  | .ag xs => xs[l]?
  | d => if l = 0 then some d else none
def compD (r : D) (m : Nat) : Option D := match r with
  | .tup xs => xs[m]?
  | d => if m = 0 then some d else none
def ansB (d i : Nat) : Bool := decide (i % 1000 = d) && (decide (1000 ≤ i) && decide (i < 900000))
def ansO (d : Nat) (r : D) (i : Nat) : Option Ob := if ansB d i = true then (compD r ((i / 1000 - 1) / 20)).bind fun c => (cellD c ((i / 1000 - 1) % 20)).bind unfD else none
def outO (outs : List D) : List Gv → Nat → Option Ob
  | [], _ => none
  | (n, j, l) :: r, i => if i = n then (outs[j]?).bind fun c => (cellD c l).bind unfD else outO outs r i
def inG : List Gv → Nat → Bool
  | [], _ => false
  | (n, _, _) :: r, i => (i == n) || inG r i
def qCal (d : Nat) (gs : List Gv) (outs : List D) (i : Nat) : Bool := !ansB d i && !(inG gs i && (outO outs gs i).isNone)
def St.cal (σ : St) (d : Nat) (gs : List Gv) (r : D) (outs : List D) : St :=
  ⟨fun i => scT (qCal d gs outs) (σ.t i), fun i => match ansO d r i with
    | some o => some o
    | none => match outO outs gs i with
      | some o => if ansB d i = true then none else some o
      | none => if ansB d i = true ∨ inG gs i = true then none else (σ.b i).map (scO (qCal d gs outs))⟩
def shC (d m l : Nat) : D → D
  | .osl _ k rows => .bs (ansN d m l) k rows.length
  | .opt _ => .bx (ansN d m l) 0
  | c => c
def shL (d m : Nat) : Nat → List D → List D
  | _, [] => []
  | l, c :: r => shC d m l c :: shL d m (l + 1) r
def shE (d m : Nat) : D → D
  | .ag xs => .ag (shL d m 0 xs)
  | c => shC d m 0 c
def shM (d : Nat) : Nat → List D → List D
  | _, [] => []
  | m, c :: r => shE d m c :: shM d (m + 1) r
def shA (d : Nat) : D → D
  | .tup xs => .tup (shM d 0 xs)
  | c => shE d 0 c
def lenE : D → Bool
  | .ag xs => decide (xs.length ≤ 20)
  | .tup _ => false
  | .mb _ _ => false
  | _ => true
def lenT : D → Bool
  | .tup xs => decide (xs.length ≤ 40) && xs.all lenE
  | c => lenE c
theorem inG_iff {gs : List Gv} {i : Nat} : inG gs i = true ↔ i ∈ gvN gs := by
  induction gs with
  | nil => simp [inG, gvN]
  | cons p r ih => obtain ⟨n, j, l⟩ := p; simp [inG, gvN] at ih ⊢; rw [ih]
theorem outO_some {outs : List D} {gs : List Gv} {i : Nat} {o : Ob} (h : outO outs gs i = some o) : ∃ j l c d, (i, j, l) ∈ gs ∧ outs[j]? = some c ∧ cellD c l = some d ∧ unfD d = some o := by
  induction gs with
  | nil => cases h
  | cons p r ih =>
    obtain ⟨n, j, l⟩ := p
    simp only [outO] at h
    split at h
    · rename_i e
      subst e
      obtain ⟨c, h1, h2⟩ := Option.bind_eq_some_iff.1 h
      obtain ⟨d, h3, h4⟩ := Option.bind_eq_some_iff.1 h2
      exact ⟨j, l, c, d, by simp, h1, h3, h4⟩
    · obtain ⟨j', l', c, d, h1, h2⟩ := ih h
      exact ⟨j', l', c, d, List.mem_cons_of_mem _ h1, h2⟩
theorem shL_at (d m : Nat) : ∀ (l : List D) (q j : Nat), (shL d m q l)[j]? = (l[j]?).map (shC d m (q + j))
  | [], q, j => by simp [shL]
  | c :: l, q, 0 => by simp [shL]
  | c :: l, q, j + 1 => by
    rw [shL, List.getElem?_cons_succ, shL_at d m l (q + 1) j, List.getElem?_cons_succ]
    congr 2; omega
theorem shM_at (d : Nat) : ∀ (l : List D) (q j : Nat), (shM d q l)[j]? = (l[j]?).map (shE d (q + j))
  | [], q, j => by simp [shM]
  | c :: l, q, 0 => by simp [shM]
  | c :: l, q, j + 1 => by
    rw [shM, List.getElem?_cons_succ, shM_at d l (q + 1) j, List.getElem?_cons_succ]
    congr 2; omega
theorem shL_len (d m : Nat) (l : List D) (q : Nat) : (shL d m q l).length = l.length := by
  induction l generalizing q with
  | nil => rfl
  | cons c l ih => simp [shL, ih]
theorem shM_len (d : Nat) (l : List D) (q : Nat) : (shM d q l).length = l.length := by
  induction l generalizing q with
  | nil => rfl
  | cons c l ih => simp [shM, ih]
end Go.Proofs.Ythkgncddilkmbaa
