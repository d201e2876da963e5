import Derived.Test.YthkgncddilkmbaaGs
/- The second engine, twentieth part: entry and return. -/
namespace Go.Proofs.Ythkgncddilkmbaa
set_option linter.unusedVariables false
set_option linter.unusedSimpArgs false
open Go.RowKit
def aRv (P : Program) (σ : St) : ResultVar → Option (Prop × D)
  | .tmp t => some (oblT (σ.t t), bodyT (σ.t t))
  | .cell t ty => match aLoad P σ ty (bodyT (σ.t t)) with
    | some (ob, y) => some (oblT (σ.t t) ∧ ob, y)
    | none => none
def aRvs (P : Program) (σ : St) : List ResultVar → Option (Prop × List D)
  | [] => some (True, [])
  | r :: l => match aRv P σ r, aRvs P σ l with
    | some (ob, y), some (ob', ys) => some (ob ∧ ob', y :: ys)
    | _, _ => none
def mkRes : List D → D
  | [y] => y
  | ys => .tup ys
def rvS (tmps : Array Value) : ResultVar → Sem Value
  | .tmp t => pure (tmps.getD t undef)
  | .cell p t => do loadVar t (← asAddr (tmps.getD p undef))
theorem results_eq (fn : Func) (tmps : Array Value) : results fn tmps = (do let vs ← fn.results.mapM (rvS tmps); pure (if h : vs.size = 1 then vs[0] else .tuple vs)) := by
  unfold results
  congr 1
theorem aRv_ok {x : Cx} {g : Gh} {σ : St} {a : Act} {w : World} (hr : Rel x g σ a w) {rv : ResultVar} {ob : Prop} {y : D} (h : aRv x.P σ rv = some (ob, y)) (ho : ob) :
    ∃ v, (rvS a.tmps rv).run x.P w = .ok v w ∧ RE g w y v := by
  unfold aRv at h
  split at h
  · rename_i t
    injection h with h; injection h with e1 e2
    subst e1 e2
    exact ⟨_, rfl, body_ok (hr.tm t) ho⟩
  · rename_i t ty
    split at h
    · rename_i ob' y' h'
      injection h with h; injection h with e1 e2
      subst e1 e2
      have hb := body_ok (hr.tm t) ho.1
      obtain ⟨r, r1, r2⟩ := aLoad_ok h' ho.2 hr hb
      refine ⟨r, ?_, r2⟩
      have hp : ∃ ad, a.tmps.getD t undef = .pointer (some ad) := by
        generalize a.tmps.getD t undef = v at hb
        unfold aLoad at h'
        split at h'
        · rename_i row hrow
          rw [hrow] at hb
          obtain ⟨b, o, rfl⟩ := Rep.pt_shape (show Rep g.S g.up w none (.pt row) v from hb)
          exact ⟨_, rfl⟩
        · rename_i id off hrow
          rw [hrow] at hb
          obtain ⟨b, -, rfl⟩ := hb
          exact ⟨_, rfl⟩
        · rename_i id k i off hrow
          rw [hrow] at hb
          obtain ⟨b, -, rfl⟩ := hb
          exact ⟨_, rfl⟩
        · cases h'
      obtain ⟨ad, had⟩ := hp
      rw [had] at r1
      simp only [rvS, had, asAddr, Sem.run_bind, Sem.run_pure, Result.andThen_ok]
      simpa [Instr.loadAt, Instr.sureAddr] using r1
    · cases h
theorem aRvs_ok {x : Cx} {g : Gh} {σ : St} {a : Act} {w : World} (hr : Rel x g σ a w) : ∀ (l : List ResultVar) (ob : Prop) (ys : List D), aRvs x.P σ l = some (ob, ys) → ob →
    ∃ vs : List Value, (l.mapM (rvS a.tmps) : Sem (List Value)).run x.P w = .ok vs w ∧ vs.length = ys.length ∧ ∀ (j : Nat) (y : D) (u : Value), ys[j]? = some y → vs[j]? = some u → RE g w y u
  | [], ob, ys, h, ho => by
    injection h with h; injection h with e1 e2
    subst e2
    exact ⟨[], rfl, rfl, fun j y u q => by simp at q⟩
  | r :: l, ob, ys, h, ho => by
    unfold aRvs at h
    split at h
    · rename_i ob1 y1 ob2 ys2 h1 h2
      injection h with h; injection h with e1 e2
      subst e1 e2
      obtain ⟨v, v1, v2⟩ := aRv_ok hr h1 ho.1
      obtain ⟨vs, w1, w2, w3⟩ := aRvs_ok hr l _ _ h2 ho.2
      refine ⟨v :: vs, ?_, by simp [w2], fun j y u q r => ?_⟩
      · rw [List.mapM_cons, Sem.run_bind, v1]
        simp only [Result.andThen_ok, Sem.run_bind, w1, Sem.run_pure]
      · cases j with
        | zero => simp at q r; subst q r; exact v2
        | succ j => exact w3 j y u (by simpa using q) (by simpa using r)
    · cases h
/-! ### entry -/
def pPar (j l : Nat) : Nat := 900000 + 100 * j + l
def entL (j : Nat) : Nat → List D → List D
  | _, [] => []
  | l, c :: r => refC (pPar j l) c :: entL j (l + 1) r
def entD (j : Nat) : D → D
  | .ag xs => .ag (entL j 0 xs)
  | c => refC (pPar j 0) c
def entO (ars : List D) (i : Nat) : Option Ob := if isP i = true then (ars[(i - 900000) / 100]?).bind fun c => (cellD c ((i - 900000) % 100)).bind unfD else none
def St.ent (ars : List D) : St := ⟨fun i => match ars[i]? with
  | some d => entD i d
  | none => .un, entO ars⟩
def lenA : List D → Bool
  | [] => true
  | .ag xs :: r => decide (xs.length ≤ 100) && lenA r
  | _ :: r => lenA r
theorem lenA_at : ∀ (l : List D), lenA l = true → ∀ (j : Nat) (xs : List D), l[j]? = some (.ag xs) → xs.length ≤ 100
  | [], _, j, xs, h => by simp at h
  | c :: l, hl, j, xs, h => by
    have ht : lenA l = true := by cases c <;> simp_all [lenA]
    cases j with
    | zero => simp at h; subst h; simp only [lenA, Bool.and_eq_true, decide_eq_true_eq] at hl; exact hl.1
    | succ j => exact lenA_at l ht j xs (by simpa using h)
/-- boxes that are given are opened at the entry. -/
def opnS : Nat → List D → St → St
  | _, [], σ => σ
  | j, .opt row :: r, σ => opnS (j + 1) r (σ.unfB (pPar j 0) row)
  | j, _ :: r, σ => opnS (j + 1) r σ
def opnB : List D → Bool
  | [] => true
  | .opt row :: r => row.all deepB && opnB r
  | _ :: r => opnB r
theorem entL_at (j : Nat) : ∀ (l : List D) (q n : Nat), (entL j q l)[n]? = (l[n]?).map (refC (pPar j (q + n)))
  | [], q, n => by simp [entL]
  | c :: l, q, 0 => by simp [entL]
  | c :: l, q, n + 1 => by
    rw [entL, List.getElem?_cons_succ, entL_at j l (q + 1) n, List.getElem?_cons_succ, show q + 1 + n = q + (n + 1) by omega]
theorem entL_len (j : Nat) (l : List D) (q : Nat) : (entL j q l).length = l.length := by
  induction l generalizing q with
  | nil => rfl
  | cons c l ih => simp [entL, ih]
theorem RA_at {g : Gh} {w : World} {j : Nat} {x : D} {u : Value} (h : RA g w j x u) {l : Nat} {c : D} (hc : cellD x l = some c) : Rep g.S g.up w (some (.par j l)) c (cellV u l) := by
  have one : ∀ d : D, Rep g.S g.up w (some (.par j 0)) d u → (if l = 0 then some d else none) = some c → Rep g.S g.up w (some (.par j l)) c (cellV u l) := by
    intro d h' hc'
    split at hc'
    · rename_i e; subst e; injection hc' with hc'; subst hc'
      rw [cellV_one h'.one]; exact h'
    · cases hc'
  cases x with
  | ag xs =>
    obtain ⟨us, rfl, h1, h2⟩ := h
    have hl : l < us.length := by rw [h1]; exact (List.getElem?_eq_some_iff.1 hc).1
    have hu := List.getElem?_eq_getElem hl
    have : cellV (.agg us.toArray) l = us[l] := lgetD hu
    rw [this]
    exact h2 l c _ hc hu
  | _ => simp only [RA] at h; exact one _ h hc
def enP : Pos → Pos
  | .par j l => .root (pPar j l)
  | p => p
theorem pPar_inv {j l : Nat} (hj : j ≤ 900) (hl : l < 100) : isP (pPar j l) = true ∧ (pPar j l - 900000) / 100 = j ∧ (pPar j l - 900000) % 100 = l := by
  unfold isP pPar
  refine ⟨?_, by omega, by omega⟩
  simp only [Bool.and_eq_true, decide_eq_true_eq]; omega
theorem pPar_of {i : Nat} (h : isP i = true) : pPar ((i - 900000) / 100) ((i - 900000) % 100) = i := by
  unfold isP at h
  simp only [Bool.and_eq_true, decide_eq_true_eq] at h
  unfold pPar; omega
/-- the callee's ghost at the entry. -/
def entG (g : Gh) (vs : List Value) : Gh := ⟨fun i => if isP i = true then blkV (cellV (vs.getD ((i - 900000) / 100) undef) ((i - 900000) % 100)) else none, fun i => if isP i = true then capV (cellV (vs.getD ((i - 900000) / 100) undef) ((i - 900000) % 100)) else 0, fun b => (g.up b).map enP, g.S⟩
theorem Rel.entry {P : Program} {N : Nat} {w : World} {g : Gh} {ars : List D} {vs : List Value} (h1 : ∀ b, g.S b → b < w.heap.size) (h2 : ∀ b p, g.up b = some p → b < w.heap.size ∧ ¬ g.S b) (hl : vs.length = ars.length) (hv : ∀ (j : Nat) (d : D) (u : Value), ars[j]? = some d → vs[j]? = some u → RA g w j d u) (hA : lenA ars = true) (hn : ars.length ≤ 900) (hN : ars.length ≤ N) :
    Rel ⟨P, N, g.S, fun b => g.up b ≠ none, w, (entG g vs).β, (entG g vs).κ⟩ (entG g vs) (St.ent ars) ⟨vs.toArray ++ Array.replicate (N - vs.toArray.size) undef, []⟩ w := by
  have mv : ∀ {p : Option Pos} {c : D} {u : Value}, Rep g.S g.up w p c u → Rep (entG g vs).S (entG g vs).up w (p.map enP) c u := fun h => by
    have m : Mv (fun _ => True) enP g (entG g vs) w w := ⟨fun b hb => ⟨hb, rfl⟩, fun b p hb _ => ⟨by show (g.up b).map enP = _; rw [hb]; rfl, rfl⟩, fun b p o _ _ => ⟨trivial, rfl⟩⟩
    exact Rep.move m h (fun _ _ => trivial)
  have hcell : ∀ (j l : Nat) (d c : D), ars[j]? = some d → cellD d l = some c → l < 100 → ∃ u, vs[j]? = some u ∧ Rep (entG g vs).S (entG g vs).up w (some (.root (pPar j l))) c (cellV u l) ∧ (entG g vs).β (pPar j l) = blkV (cellV u l) ∧ (entG g vs).κ (pPar j l) = capV (cellV u l) := fun j l d c hd hc hl' => by
    have hj : j < vs.length := by rw [hl]; exact (List.getElem?_eq_some_iff.1 hd).1
    have hu : vs[j]? = some vs[j] := List.getElem?_eq_getElem hj
    obtain ⟨e1, e2, e3⟩ := pPar_inv (j := j) (l := l) (by omega) hl'
    refine ⟨vs[j], hu, mv (RA_at (hv j d _ hd hu) hc), ?_, ?_⟩
    · show (if _ then _ else _) = _
      rw [if_pos e1, e2, e3, getD_of hu]
    · show (if _ then _ else _) = _
      rw [if_pos e1, e2, e3, getD_of hu]
  refine ⟨Below.refl _ _, fun _ _ _ => rfl, rfl, by simp [hl]; omega, fun i => ?_, fun _ q => q, fun b _ q => .inl q, h1, fun b p hp => ?_, fun i o ho => ?_, fun i o _ _ => ⟨rfl, rfl⟩⟩
  · simp only [St.ent]
    cases ha : ars[i]? with
    | none => trivial
    | some d =>
      have hlt : i < vs.length := by rw [hl]; exact (List.getElem?_eq_some_iff.1 ha).1
      have hg : (vs.toArray ++ Array.replicate (N - vs.toArray.size) undef).getD i undef = vs[i] := by
        rw [Array.getD_eq_getD_getElem?, Array.getElem?_append_left (by simpa using hlt)]
        simp [List.getElem?_eq_getElem hlt]
      rw [hg]
      have hu : vs[i]? = some vs[i] := List.getElem?_eq_getElem hlt
      have hri := hv i d _ ha hu
      have one : ∀ c, cellD d 0 = some c → vs[i].oneCell' = true → RC (entG g vs) w none (refC (pPar i 0) c) vs[i] := fun c hc h1 => by
        obtain ⟨u, q1, q2, q3, q4⟩ := hcell i 0 d c ha hc (by omega)
        rw [hu] at q1; injection q1 with q1; subst q1
        rw [cellV_one h1] at q2 q3 q4
        exact q2.ref q3 q4
      cases d with
      | ag xs =>
        have hx := lenA_at ars hA i xs ha
        obtain ⟨us, e, u1, u2⟩ := hri
        refine RE.rt (d := .ag (entL i 0 xs)) ⟨us, e, by rw [entL_len]; exact u1, fun l c z hc hz => ?_⟩
        rw [entL_at, Nat.zero_add] at hc
        obtain ⟨c0, q1, rfl⟩ := Option.map_eq_some_iff.1 hc
        obtain ⟨u, r1, r2, r3, r4⟩ := hcell i l _ c0 ha q1 (by have := (List.getElem?_eq_some_iff.1 q1).1; omega)
        rw [hu] at r1; injection r1 with r1; subst r1
        have : cellV vs[i] l = z := by rw [e]; exact lgetD hz
        rw [this] at r2 r3 r4
        exact r2.ref r3 r4
      | un => trivial
      | tup _ => simp only [RA] at hri; cases hri
      | mb _ _ => simp only [RA] at hri; cases hri
      | bx _ _ => simp only [RA] at hri; cases hri
      | el _ _ _ _ => simp only [RA] at hri; cases hri
      | bs _ _ _ => simp only [RA] at hri; cases hri
      | _ => simp only [RA] at hri; exact (one _ rfl hri.one).re.rt
  · obtain ⟨p', hp', -⟩ := Option.map_eq_some_iff.1 (show (g.up b).map enP = some p from hp)
    obtain ⟨q1, q2⟩ := h2 b p' hp'
    exact ⟨q1, fun _ => by show g.up b ≠ none; rw [hp']; simp, q2⟩
  · have ho : entO ars i = some o := ho
    unfold entO at ho
    split at ho
    · rename_i hp
      obtain ⟨d, q1, q2⟩ := Option.bind_eq_some_iff.1 ho
      obtain ⟨c, q3, q4⟩ := Option.bind_eq_some_iff.1 q2
      obtain ⟨u, r1, r2, r3, r4⟩ := hcell _ _ d c q1 q3 (Nat.mod_lt _ (by omega))
      rw [pPar_of hp] at r2 r3 r4
      exact r2.ro q4 r3 (fun _ _ _ _ => r4)
    · cases ho
theorem opnB_at : ∀ (l : List D), opnB l = true → ∀ (j : Nat) (row : List D), l[j]? = some (.opt row) → row.all deepB = true
  | [], _, j, row, h => by simp at h
  | c :: l, hl, j, row, h => by
    have ht : opnB l = true := by cases c <;> simp_all [opnB]
    cases j with
    | zero => simp at h; subst h; simp only [opnB, Bool.and_eq_true] at hl; exact hl.1
    | succ j => exact opnB_at l ht j row (by simpa using h)
theorem opn_ok {x : Cx} {a : Act} {w : World} : ∀ (l : List D) (j : Nat) (σ : St) (g : Gh), Rel x g σ a w → opnB l = true → j + l.length ≤ 900 → (∀ (q : Nat) (row : List D), l[q]? = some (.opt row) → σ.b (pPar (j + q) 0) = some (.box row)) → ∃ g', Rel x g' (opnS j l σ) a w
  | [], j, σ, g, h, _, _, _ => ⟨g, h⟩
  | c :: l, j, σ, g, h, hb, hl, hr => by
    simp only [List.length_cons] at hl
    have tl : ∀ σ' g', opnS j (c :: l) σ = opnS (j + 1) l σ' → Rel x g' σ' a w → opnB l = true → (∀ (q : Nat) (row : List D), l[q]? = some (.opt row) → σ'.b (pPar (j + 1 + q) 0) = some (.box row)) → ∃ g', Rel x g' (opnS j (c :: l) σ) a w := fun σ' g' e h1 h2 h3 => by
      rw [e]; exact opn_ok l (j + 1) σ' g' h1 h2 (by omega) h3
    have rest : ∀ (q : Nat) (row : List D), l[q]? = some (.opt row) → σ.b (pPar (j + 1 + q) 0) = some (.box row) := fun q row hq => by
      have := hr (q + 1) row (by simpa using hq)
      rw [show j + (q + 1) = j + 1 + q by omega] at this; exact this
    cases c with
    | opt row =>
      simp only [opnB, Bool.and_eq_true] at hb
      have h0 := hr 0 row rfl
      obtain ⟨g1, q1⟩ := h.unfB (id := pPar j 0) h0 hb.1 (by unfold pPar; omega)
      refine tl _ g1 rfl q1 hb.2 fun q row' hq => ?_
      have hlt := (List.getElem?_eq_some_iff.1 hq).1
      simp only [St.unfB]
      rw [if_neg (by unfold pPar; omega)]
      have : unfO (pPar j 0) row (pPar (j + 1 + q) 0) = none := by
        unfold unfO
        rw [if_neg (by unfold pPar; omega)]
      rw [this]
      simp only
      rw [rest q row' hq]
      simp only [Option.map_some, scO]
      have hdeep : ∀ y ∈ row', scC (pUn (pPar j 0) row) y = y := fun y hy => by
        have := opnB_at l hb.2 q row' hq
        have := List.all_eq_true.1 this y hy
        cases y <;> first | rfl | cases this
      rw [List.map_congr_left hdeep, List.map_id']
    | _ => exact tl σ g rfl h (by simpa [opnB] using hb) rest
end Go.Proofs.Ythkgncddilkmbaa
