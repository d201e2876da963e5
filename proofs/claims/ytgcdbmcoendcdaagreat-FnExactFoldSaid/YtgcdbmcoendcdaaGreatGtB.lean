import Derived.Test.YtgcdbmcoendcdaaGreatGrB
/- The second engine, twentieth part: entry and return. -/
namespace Go.Proofs.YtgcdbmcoendcdaaGreat
set_option linter.unusedVariables false
set_option linter.unusedSimpArgs false
open Go.RowKit
def aRv (P : Program) (σ : St) : ResultVar → Option (Prop × D)
  | .tmp t => some (oblT (σ.t t), bodyT (σ.t t))
  | .cell t ty => match aLoad P σ ty (bodyT (σ.t t)) with
    | some (ob, y) => some (oblT (σ.t t) ∧ ob, y)
    | none => none
def aRvs (P : Program) (σ : St) : List ResultVar → Option (Prop × List D)
  | [] => some (True, [])
  | r :: l => match aRv P σ r, aRvs P σ l with
    | some (ob, y), some (ob', ys) => some (ob ∧ ob', y :: ys)
    | _, _ => none
def mkRes : List D → D
  | [y] => y
  | ys => .tup ys
def rvS (tmps : Array Value) : ResultVar → Sem Value
  | .tmp t => pure (tmps.getD t undef)
  | .cell p t => do loadVar t (← asAddr (tmps.getD p undef))
theorem results_eq (fn : Func) (tmps : Array Value) : results fn tmps = (do let vs ← fn.results.mapM (rvS tmps); pure (if h : vs.size = 1 then vs[0] else .tuple vs)) := by
  unfold results
  congr 1
theorem aRv_ok {x : Cx} {g : Gh} {σ : St} {a : Act} {w : World} (hr : Rel x g σ a w) {rv : ResultVar} {ob : Prop} {y : D} (h : aRv x.P σ rv = some (ob, y)) (ho : ob) :
    ∃ v, (rvS a.tmps rv).run x.P w = .ok v w ∧ RE g w y v := by
  unfold aRv at h
  split at h
  · rename_i t
    injection h with h; injection h with e1 e2
    subst e1 e2
    exact ⟨_, rfl, body_ok (hr.tm t) ho⟩
  · rename_i t ty
    split at h
    · rename_i ob' y' h'
      injection h with h; injection h with e1 e2
      subst e1 e2
      have hb := body_ok (hr.tm t) ho.1
      obtain ⟨r, r1, r2⟩ := aLoad_ok h' ho.2 hr hb
      refine ⟨r, ?_, r2⟩
      have hp : ∃ ad, a.tmps.getD t undef = .pointer (some ad) := by
        generalize a.tmps.getD t undef = v at hb
        unfold aLoad at h'
        split at h'
        · rename_i row hrow
          rw [hrow] at hb
          obtain ⟨b, o, rfl⟩ := Rep.pt_shape (show Rep g.S g.up w none (.pt row) v from hb)
          exact ⟨_, rfl⟩
        · rename_i id off hrow
          rw [hrow] at hb
          obtain ⟨b, -, rfl⟩ := hb
          exact ⟨_, rfl⟩
        · rename_i id k i off hrow
          rw [hrow] at hb
          obtain ⟨b, -, rfl⟩ := hb
          exact ⟨_, rfl⟩
        · cases h'
      obtain ⟨ad, had⟩ := hp
      rw [had] at r1
      simp only [rvS, had, asAddr, Sem.run_bind, Sem.run_pure, Result.andThen_ok]
      simpa [Instr.loadAt, Instr.sureAddr] using r1
    · cases h
theorem aRvs_ok {x : Cx} {g : Gh} {σ : St} {a : Act} {w : World} (hr : Rel x g σ a w) : ∀ (l : List ResultVar) (ob : Prop) (ys : List D), aRvs x.P σ l = some (ob, ys) → ob →
    ∃ vs : List Value, (l.mapM (rvS a.tmps) : Sem (List Value)).run x.P w = .ok vs w ∧ vs.length = ys.length ∧ ∀ (j : Nat) (y : D) (u : Value), ys[j]? = some y → vs[j]? = some u → RE g w y u
  | [], ob, ys, h, ho => by
    injection h with h; injection h with e1 e2
    subst e2
    exact ⟨[], rfl, rfl, fun j y u q => by simp at q⟩
  | r :: l, ob, ys, h, ho => by
    unfold aRvs at h
    split at h
    · rename_i ob1 y1 ob2 ys2 h1 h2
      injection h with h; injection h with e1 e2
      subst e1 e2
      obtain ⟨v, v1, v2⟩ := aRv_ok hr h1 ho.1
      obtain ⟨vs, w1, w2, w3⟩ := aRvs_ok hr l _ _ h2 ho.2
      refine ⟨v :: vs, ?_, by simp [w2], fun j y u q r => ?_⟩
      · rw [List.mapM_cons, Sem.run_bind, v1]
        simp only [Result.andThen_ok, Sem.run_bind, w1, Sem.run_pure]
      · cases j with
        | zero => simp at q r; subst q r; exact v2
        | succ j => exact w3 j y u (by simpa using q) (by simpa using r)
    · cases h
/-! ### entry -/
def pPar (j l : Nat) : Nat := 900000 + 100 * j + l
def entL (j : Nat) : Nat → List D → List D
  | _, [] => []
  | l, c :: r => refC (pPar j l) c :: entL j (l + 1) r
def entD (j : Nat) : D → D
  | .ag xs => .ag (entL j 0 xs)
  | c => refC (pPar j 0) c
def entO (ars : List D) (i : Nat) : Option Ob := if isP i = true then (ars[(i - 900000) / 100]?).bind fun c => (cellD c ((i - 900000) % 100)).bind unfD else none
def St.ent (ars : List D) : St := ⟨fun i => match ars[i]? with
  | some d => entD i d
  | none => .un, entO ars⟩
def lenA : List D → Bool
  | [] => true
  | .ag xs :: r => decide (xs.length ≤ 100) && lenA r
  | _ :: r => lenA r
theorem lenA_at : ∀ (l : List D), lenA l = true → ∀ (j : Nat) (xs : List D), l[j]? = some (.ag xs) → xs.length ≤ 100
  | [], _, j, xs, h => by simp at h
  | c :: l, hl, j, xs, h => by
    have ht : lenA l = true := by cases c <;> simp_all [lenA]
    cases j with
    | zero => simp at h; subst h; simp only [lenA, Bool.and_eq_true, decide_eq_true_eq] at hl; exact hl.1
    | succ j => exact lenA_at l ht j xs (by simpa using h)
def opnS : Nat → List D → St → St
  | _, [], σ => σ
  | j, .opt row :: r, σ => opnS (j + 1) r (σ.unfB (pPar j 0) row)
  | j, _ :: r, σ => opnS (j + 1) r σ
def opnB : List D → Bool
  | [] => true
  | .opt row :: r => row.all deepB && opnB r
  | _ :: r => opnB r
theorem entL_at (j : Nat) : ∀ (l : List D) (q n : Nat), (entL j q l)[n]? = (l[n]?).map (refC (pPar j (q + n)))
  | [], q, n => by simp [entL]
  | c :: l, q, 0 => by simp [entL]
  | c :: l, q, n + 1 => by
    rw [entL, List.getElem?_cons_succ, entL_at j l (q + 1) n, List.getElem?_cons_succ, show q + 1 + n = q + (n + 1) by omega]
theorem entL_len (j : Nat) (l : List D) (q : Nat) : (entL j q l).length = l.length := by
  induction l generalizing q with
  | nil => rfl
  | cons c l ih => simp [entL, ih]
theorem RA_at {g : Gh} {w : World} {j : Nat} {x : D} {u : Value} (h : RA g w j x u) {l : Nat} {c : D} (hc : cellD x l = some c) : Rep g.S g.up w (some (.par j l)) c (cellV u l) := by
  have one : ∀ d : D, Rep g.S g.up w (some (.par j 0)) d u → (if l = 0 then some d else none) = some c → Rep g.S g.up w (some (.par j l)) c (cellV u l) := by
    intro d h' hc'
    split at hc'
    · rename_i e; subst e; injection hc' with hc'; subst hc'
      rw [cellV_one h'.one]; exact h'
    · cases hc'
  cases x with
  | ag xs =>
    obtain ⟨us, rfl, h1, h2⟩ := h
    have hl : l < us.length := by rw [h1]; exact (List.getElem?_eq_some_iff.1 hc).1
    have hu := List.getElem?_eq_getElem hl
    have : cellV (.agg us.toArray) l = us[l] := lgetD hu
    rw [this]
    exact h2 l c _ hc hu
  | _ => simp only [RA] at h; exact one _ h hc
def enP : Pos → Pos
  | .par j l => .root (pPar j l)
  | p => p
theorem pPar_inv {j l : Nat} (hj : j ≤ 900) (hl : l < 100) : isP (pPar j l) = true ∧ (pPar j l - 900000) / 100 = j ∧ (pPar j l - 900000) % 100 = l := by
  unfold isP pPar
  refine ⟨?_, by omega, by omega⟩
  simp only [Bool.and_eq_true, decide_eq_true_eq]; omega
theorem pPar_of {i : Nat} (h : isP i = true) : pPar ((i - 900000) / 100) ((i - 900000) % 100) = i := by
  unfold isP at h
  simp only [Bool.and_eq_true, decide_eq_true_eq] at h
  unfold pPar; omega
def entG (g : Gh) (vs : List Value) : Gh := ⟨fun i => if isP i = true then blkV (cellV (vs.getD ((i - 900000) / 100) undef) ((i - 900000) % 100)) else none, fun i => if isP i = true then capV (cellV (vs.getD ((i - 900000) / 100) undef) ((i - 900000) % 100)) else 0, fun b => (g.up b).map enP, g.S⟩
theorem Rel.entry {P : Program} {N : Nat} {w : World} {g : Gh} {ars : List D} {vs : List Value} (h1 : ∀ b, g.S b → b < w.heap.size) (h2 : ∀ b p, g.up b = some p → b < w.heap.size ∧ ¬ g.S b) (hl : vs.length = ars.length) (hv : ∀ (j : Nat) (d : D) (u : Value), ars[j]? = some d → vs[j]? = some u → RA g w j d u) (hA : lenA ars = true) (hn : ars.length ≤ 900) (hN : ars.length ≤ N) :
    Rel ⟨P, N, g.S, fun b => g.up b ≠ none, w, (entG g vs).β, (entG g vs).κ⟩ (entG g vs) (St.ent ars) ⟨vs.toArray ++ Array.replicate (N - vs.toArray.size) undef, []⟩ w := by
  have mv : ∀ {p : Option Pos} {c : D} {u : Value}, Rep g.S g.up w p c u → Rep (entG g vs).S (entG g vs).up w (p.map enP) c u := fun h => by
    have m : Mv (fun _ => True) enP g (entG g vs) w w := ⟨fun b hb => ⟨hb, rfl⟩, fun b p hb _ => ⟨by show (g.up b).map enP = _; rw [hb]; rfl, rfl⟩, fun b p o _ _ => ⟨trivial, rfl⟩⟩
    exact Rep.move m h (fun _ _ => trivial)
  have hcell : ∀ (j l : Nat) (d c : D), ars[j]? = some d → cellD d l = some c → l < 100 → ∃ u, vs[j]? = some u ∧ Rep (entG g vs).S (entG g vs).up w (some (.root (pPar j l))) c (cellV u l) ∧ (entG g vs).β (pPar j l) = blkV (cellV u l) ∧ (entG g vs).κ (pPar j l) = capV (cellV u l) := fun j l d c hd hc hl' => by
    have hj : j < vs.length := by rw [hl]; exact (List.getElem?_eq_some_iff.1 hd).1
    have hu : vs[j]? = some vs[j] := List.getElem?_eq_getElem hj
    obtain ⟨e1, e2, e3⟩ := pPar_inv (j := j) (l := l) (by omega) hl'
    refine ⟨vs[j], hu, mv (RA_at (hv j d _ hd hu) hc), ?_, ?_⟩
    · show (if _ then _ else _) = _
      rw [if_pos e1, e2, e3, getD_of hu]
    · show (if _ then _ else _) = _
      rw [if_pos e1, e2, e3, getD_of hu]
  refine ⟨Below.refl _ _, fun _ _ _ => rfl, rfl, by simp [hl]; omega, fun i => ?_, fun _ q => q, fun b _ q => .inl q, h1, fun b p hp => ?_, fun i o ho => ?_, fun i o _ _ => ⟨rfl, rfl⟩⟩
  · simp only [St.ent]
    cases ha : ars[i]? with
    | none => trivial
    | some d =>
      have hlt : i < vs.length := by rw [hl]; exact (List.getElem?_eq_some_iff.1 ha).1
      have hg : (vs.toArray ++ Array.replicate (N - vs.toArray.size) undef).getD i undef = vs[i] := by
        rw [Array.getD_eq_getD_getElem?, Array.getElem?_append_left (by simpa using hlt)]
        simp [List.getElem?_eq_getElem hlt]
      rw [hg]
      have hu : vs[i]? = some vs[i] := List.getElem?_eq_getElem hlt
      have hri := hv i d _ ha hu
      have one : ∀ c, cellD d 0 = some c → vs[i].oneCell' = true → RC (entG g vs) w none (refC (pPar i 0) c) vs[i] := fun c hc h1 => by
        obtain ⟨u, q1, q2, q3, q4⟩ := hcell i 0 d c ha hc (by omega)
        rw [hu] at q1; injection q1 with q1; subst q1
        rw [cellV_one h1] at q2 q3 q4
        exact q2.ref q3 q4
      cases d with
      | ag xs =>
        have hx := lenA_at ars hA i xs ha
        obtain ⟨us, e, u1, u2⟩ := hri
        refine RE.rt (d := .ag (entL i 0 xs)) ⟨us, e, by rw [entL_len]; exact u1, fun l c z hc hz => ?_⟩
        rw [entL_at, Nat.zero_add] at hc
        obtain ⟨c0, q1, rfl⟩ := Option.map_eq_some_iff.1 hc
        obtain ⟨u, r1, r2, r3, r4⟩ := hcell i l _ c0 ha q1 (by have := (List.getElem?_eq_some_iff.1 q1).1; omega)
        rw [hu] at r1; injection r1 with r1; subst r1
        have : cellV vs[i] l = z := by rw [e]; exact lgetD hz
        rw [this] at r2 r3 r4
        exact r2.ref r3 r4
      | un => trivial
      | tup _ => simp only [RA] at hri; cases hri
      | mb _ _ => simp only [RA] at hri; cases hri
      | bx _ _ => simp only [RA] at hri; cases hri
      | el _ _ _ _ => simp only [RA] at hri; cases hri
      | bs _ _ _ => simp only [RA] at hri; cases hri
      | _ => simp only [RA] at hri; exact (one _ rfl hri.one).re.rt
  · obtain ⟨p', hp', -⟩ := Option.map_eq_some_iff.1 (show (g.up b).map enP = some p from hp)
    obtain ⟨q1, q2⟩ := h2 b p' hp'
    exact ⟨q1, fun _ => by show g.up b ≠ none; rw [hp']; simp, q2⟩
  · have ho : entO ars i = some o := ho
    unfold entO at ho
    split at ho
    · rename_i hp
      obtain ⟨d, q1, q2⟩ := Option.bind_eq_some_iff.1 ho
      obtain ⟨c, q3, q4⟩ := Option.bind_eq_some_iff.1 q2
      obtain ⟨u, r1, r2, r3, r4⟩ := hcell _ _ d c q1 q3 (Nat.mod_lt _ (by omega))
      rw [pPar_of hp] at r2 r3 r4
      exact r2.ro q4 r3 (fun _ _ _ _ => r4)
    · cases ho
theorem opnB_at : ∀ (l : List D), opnB l = true → ∀ (j : Nat) (row : List D), l[j]? = some (.opt row) → row.all deepB = true
  | [], _, j, row, h => by simp at h
  | c :: l, hl, j, row, h => by
    have ht : opnB l = true := by cases c <;> simp_all [opnB]
    cases j with
    | zero => simp at h; subst h; simp only [opnB, Bool.and_eq_true] at hl; exact hl.1
    | succ j => exact opnB_at l ht j row (by simpa using h)
theorem opn_ok {x : Cx} {a : Act} {w : World} : ∀ (l : List D) (j : Nat) (σ : St) (g : Gh), Rel x g σ a w → opnB l = true → j + l.length ≤ 900 → (∀ (q : Nat) (row : List D), l[q]? = some (.opt row) → σ.b (pPar (j + q) 0) = some (.box row)) → ∃ g', Rel x g' (opnS j l σ) a w
  | [], j, σ, g, h, _, _, _ => ⟨g, h⟩
  | c :: l, j, σ, g, h, hb, hl, hr => by
    simp only [List.length_cons] at hl
    have tl : ∀ σ' g', opnS j (c :: l) σ = opnS (j + 1) l σ' → Rel x g' σ' a w → opnB l = true → (∀ (q : Nat) (row : List D), l[q]? = some (.opt row) → σ'.b (pPar (j + 1 + q) 0) = some (.box row)) → ∃ g', Rel x g' (opnS j (c :: l) σ) a w := fun σ' g' e h1 h2 h3 => by
      rw [e]; exact opn_ok l (j + 1) σ' g' h1 h2 (by omega) h3
    have rest : ∀ (q : Nat) (row : List D), l[q]? = some (.opt row) → σ.b (pPar (j + 1 + q) 0) = some (.box row) := fun q row hq => by
      have := hr (q + 1) row (by simpa using hq)
      rw [show j + (q + 1) = j + 1 + q by omega] at this; exact this
    cases c with
    | opt row =>
      simp only [opnB, Bool.and_eq_true] at hb
      have h0 := hr 0 row rfl
      obtain ⟨g1, q1⟩ := h.unfB (id := pPar j 0) h0 hb.1 (by unfold pPar; omega)
      refine tl _ g1 rfl q1 hb.2 fun q row' hq => ?_
      have hlt := (List.getElem?_eq_some_iff.1 hq).1
      simp only [St.unfB]
      rw [if_neg (by unfold pPar; omega)]
      have : unfO (pPar j 0) row (pPar (j + 1 + q) 0) = none := by
        unfold unfO
        rw [if_neg (by unfold pPar; omega)]
      rw [this]
      simp only
      rw [rest q row' hq]
      simp only [Option.map_some, scO]
      have hdeep : ∀ y ∈ row', scC (pUn (pPar j 0) row) y = y := fun y hy => by
        have := opnB_at l hb.2 q row' hq
        have := List.all_eq_true.1 this y hy
        cases y <;> first | rfl | cases this
      rw [List.map_congr_left hdeep, List.map_id']
    | _ => exact tl σ g rfl h (by simpa [opnB] using hb) rest
end Go.Proofs.YtgcdbmcoendcdaaGreat

namespace Go.Proofs.YtgcdbmcoendcdaaGreat
set_option linter.unusedVariables false
set_option linter.unusedSimpArgs false
open Go.RowKit
def foldM : List Nat → St → Option (Prop × St)
  | [], σ => some (True, σ)
  | i :: r, σ => match σ.b i with
    | some (.box _) => match foldB σ i with
      | some (ob, _, σ1) => match foldM r σ1 with
        | some (o2, σ2) => some (ob ∧ o2, σ2)
        | none => none
      | none => none
    | _ => foldM r σ
theorem foldM_ok {x : Cx} {a : Act} {w : World} : ∀ (l : List Nat) {g : Gh} {σ σ' : St} {ob : Prop}, Rel x g σ a w → foldM l σ = some (ob, σ') → ob → ∃ g', Rel x g' σ' a w
  | [], g, σ, σ', ob, h, hf, ho => by injection hf with hf; injection hf with e1 e2; subst e2; exact ⟨g, h⟩
  | i :: l, g, σ, σ', ob, h, hf, ho => by
    unfold foldM at hf
    split at hf
    · split at hf
      · rename_i ob1 ds σ1 h1
        split at hf
        · rename_i o2 σ2 h2
          injection hf with hf; injection hf with e1 e2
          subst e1 e2
          obtain ⟨g1, q1⟩ := h.foldB h1 ho.1
          exact foldM_ok l q1 h2 ho.2
        · cases hf
      · cases hf
    · exact foldM_ok l h hf ho
def boxP : Nat → List D → List Nat
  | _, [] => []
  | j, .opt _ :: r => pPar j 0 :: boxP (j + 1) r
  | j, _ :: r => boxP (j + 1) r
def boxC : List D → List Nat
  | [] => []
  | .bx id _ :: r => id :: boxC r
  | _ :: r => boxC r
def cellsY : List D → List D
  | [] => []
  | y :: r => cellsD y ++ cellsY r
def gvY : Nat → List D → List Gv
  | _, [] => []
  | m, y :: r => gvL m 0 (cellsD y) ++ gvY (m + 1) r
def treY (σ : St) : D → Option (Prop × D)
  | .ag xs => match fdL σ xs with
    | some (ob, ds) => some (ob, .ag ds)
    | none => none
  | .un => some (True, .un)
  | .tup _ => none
  | .mb _ _ => none
  | c => fdC σ c
def treL (σ : St) : List D → Option (Prop × List D)
  | [] => some (True, [])
  | y :: r => match treY σ y, treL σ r with
    | some (o1, d), some (o2, ds) => some (o1 ∧ o2, d :: ds)
    | _, _ => none
def outC (σ : St) (ids : List Nat) (nm : Nat) : D → D
  | .opt _ => if pOut ids nm = true then (match σ.b nm with
    | some (.box row) => if row.all deepB = true then .opt row else .un
    | _ => .un) else .un
  | .osl _ _ rows => if pOut ids nm = true then (match σ.b nm with
    | some (.arr e k rows') => if rows'.length = rows.length then .osl e k rows' else .un
    | _ => .un) else .un
  | _ => .un
def outL (σ : St) (ids : List Nat) (j : Nat) : Nat → List D → List D
  | _, [] => []
  | l, c :: r => outC σ ids (pPar j l) c :: outL σ ids j (l + 1) r
def ownB : D → Bool
  | .osl _ _ _ => true
  | .opt _ => true
  | _ => false
def outD (σ : St) (ids : List Nat) (j : Nat) : D → D
  | .ag xs => if xs.any ownB = true then .ag (outL σ ids j 0 xs) else .un
  | c => outC σ ids (pPar j 0) c
def outsA (σ : St) (ids : List Nat) : Nat → List D → List D
  | _, [] => []
  | j, c :: r => outD σ ids j c :: outsA σ ids (j + 1) r
def retM (P : Program) (rs : List ResultVar) (ars : List D) (Rs : D → List D → Prop) (σ : St) : Prop := match foldM (boxP 0 ars) σ with
  | some (o1, σ1) => match aRvs P σ1 rs with
    | some (_, ys0) => match foldM (boxC (cellsY ys0)) σ1 with
      | some (o2, σ2) => match aRvs P σ2 rs with
        | some (o3, ys) => match treL σ2 ys with
          | some (o4, zs) => o1 ∧ o2 ∧ o3 ∧ o4 ∧ nodB (gvN (gvY 0 ys)) = true ∧ Rs (mkRes zs) (outsA σ2 (gvN (gvY 0 ys)) 0 ars)
          | none => False
        | none => False
      | none => False
    | none => False
  | none => False
def retK (P : Program) (rs : List ResultVar) (ars : List D) (Rs : D → List D → Prop) : Exit → St → Prop
  | .normal, σ => retM P rs ars Rs σ
  | .ret, σ => retM P rs ars Rs σ
  | _, _ => False
theorem gvY_of : ∀ (ys : List D) (q m : Nat) (y c : D) (l i : Nat), ys[m]? = some y → (cellsD y)[l]? = some c → idC c = some i → (i, q + m, l) ∈ gvY q ys
  | [], q, m, y, c, l, i, h, _, _ => by simp at h
  | z :: ys, q, 0, y, c, l, i, h, hc, hi => by
    simp at h; subst h
    have := gvL_of q _ 0 l c i hc hi
    rw [Nat.zero_add] at this
    exact List.mem_append_left _ this
  | z :: ys, q, m + 1, y, c, l, i, h, hc, hi => by
    have := gvY_of ys (q + 1) m y c l i (by simpa using h) hc hi
    rw [show q + 1 + m = q + (m + 1) by omega] at this
    exact List.mem_append_right _ this
theorem treL_at {σ : St} : ∀ (l : List D) (ob : Prop) (ds : List D), treL σ l = some (ob, ds) → ob → ds.length = l.length ∧ ∀ (j : Nat) (c d : D), l[j]? = some c → ds[j]? = some d → ∃ o1, treY σ c = some (o1, d) ∧ o1
  | [], ob, ds, h, ho => by injection h with h; injection h with e1 e2; subst e2; exact ⟨rfl, fun j c d q => by simp at q⟩
  | c :: l, ob, ds, h, ho => by
    unfold treL at h
    split at h
    · rename_i o1 d o2 ds' h1 h2
      injection h with h; injection h with e1 e2
      subst e1 e2
      obtain ⟨i1, i2⟩ := treL_at l o2 ds' h2 ho.2
      refine ⟨by simp [i1], fun j c' d' q1 q2 => ?_⟩
      cases j with
      | zero => simp at q1 q2; subst q1 q2; exact ⟨o1, h1, ho.1⟩
      | succ j => exact i2 j c' d' (by simpa using q1) (by simpa using q2)
    · cases h
theorem outL_at (σ : St) (ids : List Nat) (j : Nat) : ∀ (l : List D) (q n : Nat), (outL σ ids j q l)[n]? = (l[n]?).map (outC σ ids (pPar j (q + n)))
  | [], q, n => by simp [outL]
  | c :: l, q, 0 => by simp [outL]
  | c :: l, q, n + 1 => by
    rw [outL, List.getElem?_cons_succ, outL_at σ ids j l (q + 1) n, List.getElem?_cons_succ, show q + 1 + n = q + (n + 1) by omega]
theorem outL_len (σ : St) (ids : List Nat) (j : Nat) (l : List D) (q : Nat) : (outL σ ids j q l).length = l.length := by
  induction l generalizing q with
  | nil => rfl
  | cons c l ih => simp [outL, ih]
theorem outsA_at (σ : St) (ids : List Nat) : ∀ (l : List D) (q n : Nat), (outsA σ ids q l)[n]? = (l[n]?).map (outD σ ids (q + n))
  | [], q, n => by simp [outsA]
  | c :: l, q, 0 => by simp [outsA]
  | c :: l, q, n + 1 => by
    rw [outsA, List.getElem?_cons_succ, outsA_at σ ids l (q + 1) n, List.getElem?_cons_succ, show q + 1 + n = q + (n + 1) by omega]
def reP (gs : List Gv) : Pos → Pos
  | .root i => match gvF gs i with
    | some (m, l) => .ans m l
    | none => if isP i = true then .par ((i - 900000) / 100) ((i - 900000) % 100) else .root i
  | p => p
theorem gvF_none {gs : List Gv} {i : Nat} (h : pOut (gvN gs) i = true) : gvF gs i = none := by
  cases q : gvF gs i with
  | none => rfl
  | some p => exact absurd rfl (pOut_spec h i (List.mem_map.2 ⟨_, gvF_mem (j := p.1) (l := p.2) q, rfl⟩))
theorem ret_ok {P : Program} {N : Nat} {w0 : World} {g0 : Gh} {ars : List D} {vs : List Value} (hl : vs.length = ars.length) (hn : ars.length ≤ 900) (hA : lenA ars = true) (hv : ∀ (j : Nat) (d : D) (u : Value), ars[j]? = some d → vs[j]? = some u → RA g0 w0 j d u) {rs : List ResultVar} {fn : Func} (hrs : fn.results = rs.toArray) {Rs : D → List D → Prop}
    {x : Cx} (hx : x = ⟨P, N, g0.S, fun b => g0.up b ≠ none, w0, (entG g0 vs).β, (entG g0 vs).κ⟩) {g : Gh} {σ : St} {a : Act} {w : World} (hr : Rel x g σ a w) (h : retM P rs ars Rs σ) :
    a.defers = [] ∧ ∃ v, (results fn a.tmps).run P w = .ok v w ∧ ∃ v' g' r outs, Ending.returned v = .returned v' ∧ Below 0 w0 w ∧ (∀ b, b < w0.heap.size → g0.up b = none → w.heap[b]? = w0.heap[b]?) ∧ (∀ b, g0.S b → Gh.S g' b) ∧ (∀ b, b < w0.heap.size → g'.S b → g0.S b ∨ g0.up b ≠ none) ∧ (∀ b, g'.S b → b < w.heap.size) ∧
      (∀ b p, g'.up b = some p → b < w.heap.size ∧ (b < w0.heap.size → g0.up b ≠ none) ∧ ¬ g'.S b) ∧ Rs r outs ∧ RNs g' w r v' ∧ ∀ (j : Nat) (d : D) (u : Value), outs[j]? = some d → vs[j]? = some u → RU g' w j d u := by
  have hP : x.P = P := by rw [hx]
  unfold retM at h
  split at h
  · rename_i o1 σ1 f1
    split at h
    · rename_i q0 ys0 a1
      split at h
      · rename_i o2 σ2 f2
        split at h
        · rename_i o3 ys a2
          split at h
          · rename_i o4 zs t1
            obtain ⟨p1, p2, p3, p4, p5, p6⟩ := h
            obtain ⟨g1, hr1⟩ := foldM_ok _ hr f1 p1
            obtain ⟨g2, hr2⟩ := foldM_ok _ hr1 f2 p2
            rw [← hP] at a2
            obtain ⟨vs', w1, w2, w3⟩ := aRvs_ok hr2 _ _ _ a2 p3
            rw [hP] at w1
            let gs := gvY 0 ys
            let gr : Gh := ⟨g2.β, g2.κ, fun b => (g2.up b).map (reP gs), g2.S⟩
            have mv : ∀ {p : Option Pos} {c : D} {u : Value}, Rep g2.S g2.up w p c u → Rep gr.S gr.up w (p.map (reP gs)) c u := fun h => by
              have m : Mv (fun _ => True) (reP gs) g2 gr w w := ⟨fun b hb => ⟨hb, rfl⟩, fun b p hb _ => ⟨by show (g2.up b).map _ = _; rw [hb]; rfl, rfl⟩, fun b p o _ _ => ⟨trivial, rfl⟩⟩
              exact Rep.move m h (fun _ _ => trivial)
            obtain ⟨l1, l2⟩ := treL_at _ _ _ t1 p4
            have cell : ∀ (m l : Nat) (y c d : D) (ob : Prop) (u : Value), ys[m]? = some y → (cellsD y)[l]? = some c → fdC σ2 c = some (ob, d) → ob → RC g2 w none c u → Rep gr.S gr.up w (some (.ans m l)) d u := fun m l y c d ob u h1 h2 h3 h4 h5 => by
              rcases fdC_ok hr2 h3 h4 h5 with ⟨q1, q2⟩ | ⟨i, q1, q2⟩
              · exact (mv q2).any _
              · have hm := gvY_of ys 0 m y c l i h1 h2 q1
                rw [Nat.zero_add] at hm
                have := mv q2
                have hm' : gvF gs i = some (m, l) := gvF_of p5 hm
                simp only [Option.map_some, reP, hm'] at this
                exact this
            have hRN : ∀ (m : Nat) (y z : D) (u : Value), ys[m]? = some y → zs[m]? = some z → vs'[m]? = some u → RN gr w m z u := fun m y z u h1 h2 h3 => by
              obtain ⟨ob, q1, q2⟩ := l2 m y z h1 h2
              have hu := w3 m y u h1 h3
              cases y with
              | ag xs =>
                simp only [treY] at q1
                split at q1
                · rename_i ob' ds hf
                  injection q1 with q1; injection q1 with e1 e2
                  subst e1 e2
                  obtain ⟨us, rfl, u1, u2⟩ := hu
                  obtain ⟨k1, k2⟩ := fdL_at _ _ _ hf q2
                  refine ⟨us, rfl, by rw [u1, k1], fun l d z hd hz => ?_⟩
                  have hlt : l < xs.length := by rw [← k1]; exact (List.getElem?_eq_some_iff.1 hd).1
                  have hc : xs[l]? = some xs[l] := List.getElem?_eq_getElem hlt
                  obtain ⟨o5, k3, k4⟩ := k2 l _ d hc hd
                  exact cell m l _ _ d o5 z h1 hc k3 k4 (u2 l _ z hc hz)
                · cases q1
              | un => simp only [treY] at q1; injection q1 with q1; injection q1 with e1 e2; subst e2; trivial
              | tup _ => cases q1
              | mb _ _ => cases q1
              | _ =>
                simp only [treY] at q1
                simp only [RE] at hu
                have := cell m 0 _ _ z ob u h1 rfl q1 q2 hu
                cases z <;> first | exact this | cases this
            have hres : ∃ v, (results fn a.tmps).run P w = .ok v w ∧ RNs gr w (mkRes zs) v := by
              rw [results_eq, Array.mapM_eq_mapM_toList]
              have w1 : (List.mapM (rvS a.tmps) fn.results.toList).run P w = .ok vs' w := by rw [hrs]; exact w1
              simp only [Sem.run_bind, Sem.run_map, w1, Result.andThen_ok, Sem.run_pure]
              match ys, zs, vs', l1, w2, hRN with
              | [], [], [], _, _, _ => exact ⟨_, rfl, [], rfl, rfl, fun m y u q => by simp at q⟩
              | [y], [z], [v], _, _, hRN =>
                refine ⟨v, by simp, ?_⟩
                have := hRN 0 y z v rfl rfl rfl
                cases z <;> first | exact this | (simp only [RN] at this; cases this)
              | y1 :: y2 :: ys, z1 :: z2 :: zs, v1 :: v2 :: vs', l1, w2, hRN =>
                refine ⟨.tuple (v1 :: v2 :: vs').toArray, by simp, v1 :: v2 :: vs', rfl, by simp at l1 w2 ⊢; omega, fun m z u hz hu => ?_⟩
                have hm : m < (y1 :: y2 :: ys).length := by rw [← l1]; exact (List.getElem?_eq_some_iff.1 hz).1
                exact hRN m _ z u (List.getElem?_eq_getElem hm) hz hu
            obtain ⟨v, v1, v2⟩ := hres
            have hbβ : x.β0 = (entG g0 vs).β ∧ x.κ0 = (entG g0 vs).κ := by rw [hx]; exact ⟨rfl, rfl⟩
            have hout : ∀ (j l : Nat) (d c : D) (u : Value), ars[j]? = some d → vs[j]? = some u → cellD d l = some c → l < 100 → outC σ2 (gvN gs) (pPar j l) c = .un ∨ Rep gr.S gr.up w (some (.par j l)) (outC σ2 (gvN gs) (pPar j l) c) (cellV u l) := fun j l d c u hd hu hc hl' => by
              obtain ⟨e1, e2, e3⟩ := pPar_inv (j := j) (l := l) (by have := (List.getElem?_eq_some_iff.1 hd).1; omega) hl'
              have hRA := RA_at (hv j d u hd hu) hc
              have hβ : ∀ o, σ2.b (pPar j l) = some o → g2.β (pPar j l) = blkV (cellV u l) ∧ g2.κ (pPar j l) = capV (cellV u l) := fun o ho => by
                obtain ⟨q1, q2⟩ := hr2.par _ o ho e1
                rw [q1, q2, hbβ.1, hbβ.2]
                constructor
                · show (if _ then _ else _) = _
                  rw [if_pos e1, e2, e3, getD_of hu]
                · show (if _ then _ else _) = _
                  rw [if_pos e1, e2, e3, getD_of hu]
              have hpos : pOut (gvN gs) (pPar j l) = true → reP gs (.root (pPar j l)) = .par j l := fun q => by
                simp only [reP, gvF_none q, if_pos e1, e2, e3]
              cases c with
              | opt row0 =>
                simp only [outC]
                split
                · rename_i hp
                  split
                  · rename_i row hb
                    split
                    · rename_i hdp
                      right
                      obtain ⟨b, cs, ty, b1, b2, b3, b4, b5⟩ := hr2.ob _ _ hb
                      have q := (hβ _ hb).1
                      generalize cellV u l = z at hRA q
                      cases hRA with
                      | @opt _ _ b' ty' cs' r1 r2 r3 r4 =>
                        rw [b1] at q
                        injection q with q
                        subst q
                        have := mv (Rep.opt (S := g2.S) (p := .root (pPar j l)) cs b2 b3 b4 fun j' d' hj => (b5 j' d' hj).deep (List.all_eq_true.1 hdp d' (List.mem_of_getElem? hj)))
                        rw [Option.map_some, hpos hp] at this
                        exact this
                    · exact .inl rfl
                  · exact .inl rfl
                · exact .inl rfl
              | osl e k rows =>
                simp only [outC]
                split
                · rename_i hp
                  split
                  · rename_i e' k' rows' hb
                    split
                    · rename_i hlen
                      right
                      have hR : Rep g2.S g2.up w (some (.root (pPar j l))) (.osl e' k' rows') (.slice ((g2.β (pPar j l)).map fun b => ⟨b, 0, none⟩) rows'.length (g2.κ (pPar j l))) := hr2.ob _ _ hb
                      obtain ⟨q1, q2⟩ := hβ _ hb
                      have := mv hR
                      rw [Option.map_some, hpos hp, q1, q2, hlen] at this
                      generalize cellV u l = z at hRA this
                      cases hRA with
                      | osl0 => exact this
                      | osl cs' r1 r2 r3 r4 r5 r6 r7 => exact this
                    · exact .inl rfl
                  · exact .inl rfl
                · exact .inl rfl
              | _ => exact .inl rfl
            refine ⟨hr.dfr, v, v1, v, gr, _, _, rfl, by have := hr2.bel; rw [hx] at this; exact this, fun b h1 h2 => ?_, fun b hs => ?_, fun b h1 h2 => ?_, hr2.new, fun b p hp => ?_, p6, v2, fun j d u hd hu => ?_⟩
            · have := hr2.fr b (by rw [hx]; exact h1) (by rw [hx]; simpa using h2)
              rw [hx] at this; exact this
            · exact hr2.s0 b (by rw [hx]; exact hs)
            · have := hr2.old b (by rw [hx]; exact h1) h2
              rw [hx] at this; exact this
            · obtain ⟨p', hp', -⟩ := Option.map_eq_some_iff.1 (show (g2.up b).map _ = some p from hp)
              obtain ⟨k1, k2, k3⟩ := hr2.own b p' hp'
              rw [hx] at k2
              exact ⟨k1, k2, k3⟩
            · rw [outsA_at, Nat.zero_add] at hd
              obtain ⟨d0, k1, rfl⟩ := Option.map_eq_some_iff.1 hd
              have one : ∀ c, cellD d0 0 = some c → cellV u 0 = u → (outC σ2 (gvN gs) (pPar j 0) c = .un ∨ Rep gr.S gr.up w (some (.par j 0)) (outC σ2 (gvN gs) (pPar j 0) c) u) := fun c hc e => by
                have := hout j 0 d0 c u k1 hu hc (by omega)
                rwa [e] at this
              have hRA0 := hv j d0 u k1 hu
              cases d0 with
              | ag xs =>
                simp only [outD]
                split
                · obtain ⟨us, e, u1, u2⟩ := hRA0
                  refine ⟨us, e, by rw [outL_len]; exact u1, fun l c z hc hz => ?_⟩
                  rw [outL_at, Nat.zero_add] at hc
                  obtain ⟨c0, k2, rfl⟩ := Option.map_eq_some_iff.1 hc
                  have := hout j l _ c0 u k1 hu k2 (by have := lenA_at ars hA j xs k1; have := (List.getElem?_eq_some_iff.1 k2).1; omega)
                  have hz' : cellV u l = z := by rw [e]; exact lgetD hz
                  rw [hz'] at this
                  exact this
                · trivial
              | opt row0 =>
                simp only [RA] at hRA0
                rcases one _ rfl (cellV_one hRA0.one 0) with q | q
                · change RU gr w j (outC σ2 (gvN gs) (pPar j 0) (.opt row0)) u; rw [q]; trivial
                · change RU gr w j (outC σ2 (gvN gs) (pPar j 0) (.opt row0)) u
                  generalize outC σ2 (gvN gs) (pPar j 0) (D.opt row0) = z at q
                  cases z <;> first | exact q | trivial | cases q
              | osl e k rows0 =>
                simp only [RA] at hRA0
                rcases one _ rfl (cellV_one hRA0.one 0) with q | q
                · change RU gr w j (outC σ2 (gvN gs) (pPar j 0) (.osl e k rows0)) u; rw [q]; trivial
                · change RU gr w j (outC σ2 (gvN gs) (pPar j 0) (.osl e k rows0)) u
                  generalize outC σ2 (gvN gs) (pPar j 0) (D.osl e k rows0) = z at q
                  cases z <;> first | exact q | trivial | cases q
              | _ => trivial
          · exact h.elim
        · exact h.elim
      · exact h.elim
    · exact h.elim
  · exact h.elim
theorem FCon.intro (M : Md) {f : FuncId} (fn : Func) {c : Code} (hf : M.P.funcs[f]? = some fn) (hname : (fn.name == "runtime.NumGoroutine") = false) (hb : fn.body = some c) (N : Nat) (hN : fn.ntmps = N) {rs : List ResultVar} (hrs : fn.results = rs.toArray) (pl : List (Nat × Plan)) (hck : chkC pl N c = true) {ars : List D} {Rs : D → List D → Prop}
    (hlen : ars.length ≤ N) (hn : ars.length ≤ 900) (hA : lenA ars = true) (ho : opnB ars = true) (h : AC M N pl c (retK M.P rs ars Rs) (opnS 0 ars (St.ent ars))) : FCon M.P f ars Rs := by
  refine ⟨fun vs w => ?_, fun w g vs h1 h2 hl hv => calls_of_wp hf hb ?_⟩
  · have hname' : ¬ fn.name = "runtime.NumGoroutine" := by simpa using hname
    have hbn : ¬ fn.body = none := by rw [hb]; simp
    simp [callFunc, hf, hname', hbn]
  · have hR := Rel.entry (P := M.P) (N := N) h1 h2 hl hv hA hn hlen
    obtain ⟨g', hR'⟩ := opn_ok ars 0 _ _ hR ho (by omega) (fun q row hq => by
      have hq' := (List.getElem?_eq_some_iff.1 hq).1
      obtain ⟨e1, e2, e3⟩ := pPar_inv (j := q) (l := 0) (by omega) (by omega)
      rw [Nat.zero_add]
      show entO ars _ = _
      unfold entO
      rw [if_pos e1, e2, e3, hq]; rfl)
    rw [← hN] at hR'
    refine h hck _ g' _ w _ rfl hN hR' ?_
    intro e σ' g'' a' w' hr' hK
    cases e with
    | normal => exact ret_ok hl hn hA hv hrs rfl hr' hK
    | ret => exact ret_ok hl hn hA hv hrs rfl hr' hK
    | exit id => exact hK.elim
    | goto l => exact hK.elim
    | panic c => exact hK.elim
    | outgrown => exact hK.elim
end Go.Proofs.YtgcdbmcoendcdaaGreat

namespace Go.Proofs.YtgcdbmcoendcdaaGreat
set_option linter.unusedVariables false
set_option linter.unusedSimpArgs false
open Go.RowKit
section
variable {M : Md} {N : Nat} {pl : List (Nat × Plan)} {K K' : Exit → St → Prop} {F : St → Prop} {σ : St} {ops : Array Oper}
theorem sp_skip : stp M N pl .skip K σ = K .normal σ := rfl
theorem sp_exit {id : Nat} : stp M N pl (.exit id) K σ = K (.exit id) σ := rfl
theorem sp_ret : stp M N pl .ret K σ = K .ret σ := rfl
theorem sp_seq {c d : Code} : stp M N pl (.seq c d) K σ = stp M N pl c (thenK (AC M N pl d K) K) σ := rfl
theorem sp_block {id : Nat} {c : Code} : stp M N pl (.block id c) K σ = stp M N pl c (blockK id K) σ := rfl
theorem sp_cond {z : Operand} {c d : Code} : stp M N pl (.cond z c d) K σ = condV (ev σ z) (AC M N pl c K σ) (AC M N pl d K σ) := rfl
theorem sp_reg {id : Nat} {l : List Oper} : stp M N pl (.region id l.toArray false) K σ = aops (M.at id) l.toArray (K .normal) l σ := rfl
def drwV (M : Md) (ops : Array Oper) (K : St → Prop) (σ : St) : Option Plan → Prop
  | some (m, fx, fl, π) => aqsN M ops (flF fl) (aops M ops K (ops.toList.drop m)) π [] σ
  | none => False
theorem sp_drw {id : Nat} {l : List Oper} : stp M N pl (.region id l.toArray true) K σ = drwV (M.at id) l.toArray (K .normal) σ (plF pl id) := by
  show (match plF pl id with | some (m, fx, fl, π) => _ | none => False) = _
  cases plF pl id <;> rfl
theorem sp_loop {c : Code} : stp M N pl (.loop c) K σ = ACL M N pl c K σ := rfl
theorem k_tn : thenK F K .normal σ = F σ := rfl
theorem k_te {i : Nat} : thenK F K (.exit i) σ = K (.exit i) σ := rfl
theorem k_tr : thenK F K .ret σ = K .ret σ := rfl
theorem k_bn {i : Nat} : blockK i K .normal σ = K .normal σ := rfl
theorem k_br {i : Nat} : blockK i K .ret σ = K .ret σ := rfl
theorem k_be {i j : Nat} : blockK i K (.exit j) σ = if j = i then K .normal σ else K (.exit j) σ := rfl
theorem k_rn {P : Program} {rs : List ResultVar} {ars : List D} {Rs : D → List D → Prop} : retK P rs ars Rs .normal σ = retM P rs ars Rs σ := rfl
theorem k_rr {P : Program} {rs : List ResultVar} {ars : List D} {Rs : D → List D → Prop} : retK P rs ars Rs .ret σ = retM P rs ars Rs σ := rfl
theorem ao_nil : aops M ops F [] σ = F σ := rfl
theorem ao_cons {o : Oper} {l : List Oper} : aops M ops F (o :: l) σ = astep M ops o σ (aops M ops F l) := rfl
theorem ent_t (ars : List D) (i : Nat) : (St.ent ars).t i = match ars[i]? with
  | some d => entD i d
  | none => .un := rfl
theorem ent_b (ars : List D) : (St.ent ars).b = entO ars := rfl
theorem put_t (d : Nat) (y : D) (i : Nat) : (σ.put (some d) y).t i = if i = d then y else σ.t i := rfl
theorem put_b (d : Nat) (y : D) : (σ.put (some d) y).b = σ.b := rfl
theorem put_n (y : D) : σ.put none y = σ := rfl
theorem sc_t (q r : Nat → Bool) (i : Nat) : (σ.sc q r).t i = scT q (σ.t i) := rfl
theorem sc_b (q r : Nat → Bool) (i : Nat) : (σ.sc q r).b i = if r i = true then (σ.b i).map (scO q) else none := rfl
theorem sc_0 : σ.sc (pOut []) (pOut []) = σ := sc_all σ
theorem setB_t (d : Nat) (o : Ob) (i : Nat) : (σ.setB d o).t i = σ.t i := rfl
theorem setB_b (d : Nat) (o : Ob) (i : Nat) : (σ.setB d o).b i = if i = d then some o else σ.b i := rfl
theorem fr_t (d : Nat) (o : Ob) (i : Nat) : (σ.fr d o).t i = frT d o (σ.t i) := rfl
theorem fr_b (d : Nat) (o : Ob) (i : Nat) : (σ.fr d o).b i = if i = d then none else (σ.b i).map (frO d o) := rfl
theorem unf_t (id : Nat) (row : List D) (i : Nat) : (σ.unfB id row).t i = scT (pUn id row) (σ.t i) := rfl
theorem unf_b (id : Nat) (row : List D) (i : Nat) : (σ.unfB id row).b i = if i = id then some (.box (unfL id 0 row)) else match unfO id row i with
    | some o => some o
    | none => (σ.b i).map (scO (pUn id row)) := rfl
theorem cal_t (d : Nat) (gs : List Gv) (r : D) (outs : List D) (i : Nat) : (σ.cal d gs r outs).t i = scT (qCal d gs outs) (σ.t i) := rfl
theorem cal_b (d : Nat) (gs : List Gv) (r : D) (outs : List D) (i : Nat) : (σ.cal d gs r outs).b i = match ansO d r i with
    | some o => some o
    | none => match outO outs gs i with
      | some o => if ansB d i = true then none else some o
      | none => if ansB d i = true ∨ inG gs i = true then none else (σ.b i).map (scO (qCal d gs outs)) := rfl
theorem op_t (id e k : Nat) (rows : List (List D)) (i c nm : Nat) (d : D) (o : Ob) (j : Nat) : (σ.opE id e k rows i c nm d o).t j = scT (pOut [nm]) (σ.t j) := rfl
theorem op_b (id e k : Nat) (rows : List (List D)) (i c nm : Nat) (d : D) (o : Ob) (j : Nat) : (σ.opE id e k rows i c nm d o).b j = if j = nm then some o else if j = id then some (.hol e k rows i c (refC nm d)) else if pOut [nm, id] j = true then (σ.b j).map (scO (pOut [nm])) else none := rfl
theorem ev_t (i : Nat) : ev σ (.tmp i) = σ.t i := rfl
theorem ev_i (k : IntKind) (n : Int) : ev σ (.const (.int k n)) = .s (.int k n) := rfl
theorem ev_b (b : Bool) : ev σ (.const (.bool b)) = .s (.bool b) := rfl
theorem ev_s (s : ByteArray) : ev σ (.const (.string s)) = .s (.string s) := rfl
theorem ev_nil : ev σ (.const (.slice none 0 0)) = .nil := rfl
theorem ev_np : ev σ (.const (.pointer none)) = .np := rfl
theorem ev_f (f : FuncId) : ev σ (.func f) = .fn f [] := rfl
end
theorem bnil (s : ByteArray) : (s.toList == ByteArray.toList ⟨#[]⟩) = s.toList.isEmpty := by
  have : ByteArray.toList ⟨#[]⟩ = [] := by kernel_rfl
  rw [this]
  cases s.toList <;> rfl
theorem CallG_mk {P : Program} {f : FuncId} {ars : List D} {bs : List Nat} {K : D → List D → Prop} {Rs : D → List D → Prop} (hF : FCon P f ars Rs) (h : ∀ r outs, Rs r outs → (bs = [] ∨ (Pure r ∧ ∀ o ∈ outs, Pure o)) ∧ K r outs) : CallG P f ars bs K := ⟨Rs, hF, h⟩
theorem CallE_mk {P : Program} {f : FuncId} {ars : List D} {bs : List Nat} {K : D → List D → Prop} {r0 : D} {o0 : List D} (hF : FCon P f ars (fun r o => r = r0 ∧ o = o0)) (h : (bs = [] ∨ (Pure r0 ∧ ∀ o ∈ o0, Pure o)) ∧ K r0 o0) : CallE P f ars bs K := ⟨r0, o0, hF, h.1, h.2⟩
def CallQ (P : Program) (f : FuncId) (ars : List D) (bs : List Nat) (c : Bool) (wr : D → D) (σ : St) (dst : Option Tmp) (K : St → Prop) : Prop := ∃ r0, (c = true → FCon P f ars (fun r _ => r = r0) ∧ (bs = [] ∨ Pure r0)) ∧ K (σ.put dst (wr (frA r0)))
def callQA (P : Program) (σ : St) (dst : Option Tmp) (c : Bool) (wr : D → D) (K : St → Prop) (ob : Prop) (f : FuncId) (caps : List D) : Option (Prop × List D × List Gv × List Nat) → Prop
  | some (o2, ars, gs, bs) => dst.isSome = true ∧ gs = [] ∧ (c = true → ob ∧ o2) ∧ CallQ P f (ars ++ caps) bs c wr σ dst K
  | none => c = false ∧ K (σ.put dst (wr .un))
def callQM (P : Program) (σ : St) (dst : Option Tmp) (c : Bool) (wr : D → D) (K : St → Prop) : Option (Prop × FuncId × List D × List Operand) → Prop
  | some (ob, f, caps, ops) => callQA P σ dst c wr K ob f caps (aArgs σ [] 0 ops)
  | none => c = false ∧ K (σ.put dst (wr .un))
theorem ACallQ_go {P : Program} {σ : St} {o : Oper} {c : Bool} {wr : D → D} {K : St → Prop} (h : callQM P σ o.dst c wr K (aFn σ o.op)) : ACallQ P σ o c wr K := by
  unfold callQM at h
  split at h
  · rename_i ob f caps ops hc
    unfold callQA at h
    split at h
    · rename_i o2 ars gs bs ha
      obtain ⟨hd, rfl, ho, r0, hF, hK⟩ := h
      obtain ⟨d, hd⟩ := Option.isSome_iff_exists.1 hd
      exact ⟨frA r0, fun q => ⟨d, ob, f, caps, ops, o2, ars, bs, r0, hd, hc, (ho q).1, ha, (ho q).2, (hF q).1, (hF q).2, rfl⟩, hK⟩
    · exact ⟨_, fun q => (by rw [h.1] at q; cases q), h.2⟩
  · exact ⟨_, fun q => (by rw [h.1] at q; cases q), h.2⟩
theorem ACallQ_no {P : Program} {σ : St} {o : Oper} {wr : D → D} {K : St → Prop} (y : D) (h : K (σ.put o.dst (wr y))) : ACallQ P σ o false wr K := ⟨y, fun q => (by cases q), h⟩
theorem CallQ_no {P : Program} {f : FuncId} {ars : List D} {bs : List Nat} {wr : D → D} {σ : St} {dst : Option Tmp} {K : St → Prop} (h : K (σ.put dst (wr .un))) : CallQ P f ars bs false wr σ dst K := ⟨.un, fun q => (by cases q), h⟩
theorem CallQ_mk {P : Program} {f : FuncId} {ars : List D} {bs : List Nat} {c : Bool} {wr : D → D} {σ : St} {dst : Option Tmp} {K : St → Prop} {r : D} (hF : FCon P f ars (fun r' _ => r' = r)) (h : (c = true → bs = [] ∨ Pure r) ∧ K (σ.put dst (wr (frA r)))) : CallQ P f ars bs c wr σ dst K := ⟨r, fun hc => ⟨hF, h.1 hc⟩, h.2⟩
theorem CallQ_gd {P : Program} {f : FuncId} {ars : List D} {bs : List Nat} {c : Bool} {wr : D → D} {σ : St} {dst : Option Tmp} {K : St → Prop} (r : D) (hF : c = true → FCon P f ars (fun r' _ => r' = r)) (h : (c = true → bs = [] ∨ Pure r) ∧ K (σ.put dst (wr (frA r)))) : CallQ P f ars bs c wr σ dst K := ⟨r, fun hc => ⟨hF hc, h.1 hc⟩, h.2⟩
theorem getD_map {α : Type} (enc : α → List D) (xs : List α) (k : Nat) (h : k < xs.length) : (xs.map enc).getD k [] = enc xs[k] := by
  rw [List.getD_eq_getElem?_getD, List.getElem?_map, List.getElem?_eq_getElem h]; rfl
theorem pIs {y : Option Bool} : y = y := rfl
theorem pure_s (v : Value) : Pure (.s v) = True := eq_true (.s v)
theorem pure_nil : Pure .nil = True := eq_true .nil
theorem pure_un : Pure .un = True := eq_true .un
attribute [go_sem] sp_skip sp_exit sp_ret sp_seq sp_block sp_cond sp_reg sp_drw sp_loop drwV k_tn k_te k_tr k_bn k_br k_be k_rn k_rr ao_nil ao_cons ent_t ent_b put_t put_b put_n sc_t sc_b sc_0 setB_t setB_b fr_t fr_b unf_t unf_b cal_t cal_b op_t op_b ev_t ev_i ev_b ev_s ev_nil ev_np ev_f pure_s pure_nil pure_un
  aqsN_nil aqsN_no aqsN_fl aqsN_fx aqsN_fx1 altK_ap lin_nil lin_cons aPivN aEff aFlQ aqst flF plF condV astep gvCall aopP aop1 aop2 aop3 aopF aopB ACall ACallE aFn aft callQM callQA lift2 aBin aBinI aBinS aUn aLoad ldRow ldC aFieldAddr aField aIndexAddr aIndex aSlice boundE aLen aConv aNil aPick aExtract rowsE intE cellsE cellsD aRows aBuild aFill lay aCaps srcK nmA
  fdC fdL idC idO idsC nodB pOut isP foldB foldM prepC prepL prepA reop argC argL argD aArgs gvL bsL fdB idB deepB deepO frz frzL frC frE frT frO scC scE scT scO unfL unfC unfD unfO pUn nmU refC entL entD entO cellD compD ansO ansB ansN outO inG qCal shC shL shE shM shA lenE lenT frA
  retM aRvs aRv mkRes boxP boxC cellsY gvY gvN gvK treY treL outC outL outD outsA ownB opnS opnB lenA pPar grd gvT dstAt gdT bodyT oblT oblO kmin kmax eqCs
  List.getElem?_toArray List.getElem?_cons_zero List.getElem?_cons_succ List.drop_zero List.drop_succ_cons List.take_zero List.take_succ_cons List.take_nil List.drop_nil List.map_cons List.map_nil List.append_nil List.nil_append List.cons_append List.length_cons List.length_nil List.length_map List.length_append List.all_cons List.all_nil List.any_cons List.any_nil List.filter_cons List.filter_nil List.contains_cons List.contains_nil List.getD_cons_zero List.getD_cons_succ List.getD_nil List.set_cons_zero List.set_cons_succ
  Nat.zero_add Nat.add_zero Option.map_some Option.map_none Option.bind_some Option.bind_none Option.isNone_some Option.isNone_none Option.isSome_some Option.isSome_none Option.getD_some Option.getD_none if_true if_false Bool.false_eq_true true_and and_true and_self false_and and_false true_implies implies_true List.toList_toArray Option.some.injEq Int.toNat_natCast bnil beq_true beq_false imp_self beq_self_eq_true bne_self_eq_false Bool.cond_true_left Bool.cond_true_right Bool.cond_false_left Bool.cond_false_right Bool.true_and Bool.and_true Bool.false_and Bool.and_false Bool.true_or Bool.or_true Bool.false_or Bool.or_false Bool.not_true Bool.not_false forall_const id_eq or_true true_or or_false false_or not_true_eq_false not_false_eq_true decide_true decide_false
end Go.Proofs.YtgcdbmcoendcdaaGreat

namespace Go.Proofs.YtgcdbmcoendcdaaGreat
set_option linter.unusedVariables false
set_option linter.unusedSimpArgs false
open Go.RowKit
theorem Und.up_some {up : Nat → Option Pos} {R : Nat → Prop} {b : Nat} (h : Und up R b) : up b ≠ none := by
  cases h with
  | root h _ => rw [h]; simp
  | cell h _ => rw [h]; simp
theorem Rep.rn {g : Gh} {w : World} {m : Nat} {d : D} {v : Value} (h : Rep g.S g.up w none d v) : RN g w m d v := by
  cases d with
  | un => trivial
  | ag _ => cases h
  | _ => exact h.any _
theorem RN.rns {g : Gh} {w : World} {d : D} {v : Value} (h : RN g w 0 d v) (ht : ∀ xs, d ≠ .tup xs) : RNs g w d v := by
  cases d with
  | tup xs => exact absurd rfl (ht xs)
  | _ => exact h
open Classical in
theorem FCon.frz {P : Program} {f : FuncId} {args : List D} {Rs : D → List D → Prop} (h : FCon P f args Rs) : FCon P f args (fun r o => ∃ r0, Rs r0 o ∧ r = frA r0) := by
  refine ⟨h.ent, fun w g vs h1 h2 h3 h4 => (h.run w g vs h1 h2 h3 h4).mono ?_⟩
  rintro e w' ⟨v, g', r, o, a1, a2, a3, a4, a5, a6, a7, a8, a9, a10⟩
  let π : Pos → Pos := fun p => match p with
    | .cell b o => .cell b o
    | .ans _ _ => .root 0
    | _ => .root 1
  let up1 : Nat → Option Pos := fun b => (g'.up b).map π
  let Rb : Nat → Prop := fun i => i = 0
  let ga : Gh := ⟨g'.β, g'.κ, fun b => if Und up1 Rb b then none else g'.up b, fun b => g'.S b ∨ Und up1 Rb b⟩
  have hund : ∀ b, Und up1 Rb b → g'.up b ≠ none := fun b q e => q.up_some (by show (g'.up b).map π = none; rw [e]; rfl)
  let Ok : Pos → Prop := fun p => match p with
    | .cell b _ => ¬ Und up1 Rb b
    | .ans _ _ => False
    | _ => True
  have hok : ∀ b p, g'.up b = some p → Ok p → ¬ Und up1 Rb b := by
    intro b p hp ho hu
    cases hu with
    | root q r =>
      have q : (g'.up b).map π = some (.root _) := q
      rw [hp, Option.map_some] at q
      injection q with q
      cases p with
      | cell b' o' => cases q
      | ans _ _ => exact ho
      | root _ => injection q with q; subst q; cases r
      | par _ _ => injection q with q; subst q; cases r
    | cell q r =>
      have q : (g'.up b).map π = some (.cell _ _) := q
      rw [hp, Option.map_some] at q
      injection q with q
      cases p with
      | cell b' o' => injection q with q1 q2; subst q1; exact ho r
      | ans _ _ => cases q
      | root _ => cases q
      | par _ _ => cases q
  have mv : Mv Ok (fun p => p) g' ga w' w' := ⟨fun b hb => ⟨.inl hb, rfl⟩, fun b p hb ho => ⟨by show (if Und up1 Rb b then none else g'.up b) = _; rw [if_neg (hok b p hb ho)]; exact hb, rfl⟩, fun b p o hb ho => ⟨hok b p hb ho, rfl⟩⟩
  have key : ∀ (m l : Nat) (c : D) (u : Value), Rep g'.S g'.up w' (some (.ans m l)) c u → Rep ga.S ga.up w' none (Go.Proofs.YtgcdbmcoendcdaaGreat.frz c) u := by
    intro m l c u hr
    have h1 : Rep g'.S up1 w' ((some (.ans m l)).map π) c u := Rep.move (Ok := fun _ => True) (π := π) (g := g') (g' := ⟨g'.β, g'.κ, up1, g'.S⟩) ⟨fun b hb => ⟨hb, rfl⟩, fun b p hb _ => ⟨by show (g'.up b).map π = _; rw [hb]; rfl, rfl⟩, fun b p o hb _ => ⟨trivial, rfl⟩⟩ hr (fun _ _ => trivial)
    exact h1.froz (S' := ga.S) (up' := ga.up) (R := Rb) (fun b hs => .inl hs) (fun b hu => .inr hu) (fun q hq => by
      have hq : some (Pos.root 0) = some q := hq
      injection hq with hq; subst hq; rfl)
  have cellE : ∀ (m : Nat) (y : D) (u : Value), RN g' w' m y u → RN ga w' m (match y with | .ag ys => .ag (frzL ys) | y => Go.Proofs.YtgcdbmcoendcdaaGreat.frz y) u := by
    intro m y u hN
    cases y with
    | un => trivial
    | ag xs =>
      obtain ⟨us, rfl, n1, n2⟩ := hN
      refine ⟨us, rfl, by rw [frzL_len]; exact n1, fun l c z hc hz => ?_⟩
      rw [frzL_map, List.getElem?_map] at hc
      obtain ⟨c0, q1, rfl⟩ := Option.map_eq_some_iff.1 hc
      exact (key _ _ _ _ (n2 l c0 z q1 hz)).any _
    | tup _ => simp only [RN] at hN; cases hN
    | mb _ _ => simp only [RN] at hN; cases hN
    | bx _ _ => simp only [RN] at hN; cases hN
    | el _ _ _ _ => simp only [RN] at hN; cases hN
    | bs _ _ _ => simp only [RN] at hN; cases hN
    | _ => simp only [RN] at hN; exact (key _ _ _ _ hN).rn
  refine ⟨v, ga, frA r, o, a1, a2, a3, fun b hb => .inl (a4 b hb), fun b hb hs => ?_, fun b hs => ?_, fun b p hp => ?_, ⟨r, a8, rfl⟩, ?_, fun j d u hd hu => ?_⟩
  · rcases hs with hs | hs
    · exact a5 b hb hs
    · cases hq : g'.up b with
      | none => exact absurd hq (hund b hs)
      | some p => exact .inr ((a7 b p hq).2.1 hb)
  · rcases hs with hs | hs
    · exact a6 b hs
    · cases hq : g'.up b with
      | none => exact absurd hq (hund b hs)
      | some p => exact (a7 b p hq).1
  · have hp : (if Und up1 Rb b then none else g'.up b) = some p := hp
    split at hp
    · cases hp
    · rename_i hn
      obtain ⟨c1, c2, c3⟩ := a7 b p hp
      exact ⟨c1, c2, fun q => q.elim c3 hn⟩
  · cases r with
    | tup xs =>
      obtain ⟨us, rfl, n1, n2⟩ := a9
      refine ⟨us, rfl, by simp [n1], fun m y u hy hu => ?_⟩
      rw [List.getElem?_map] at hy
      obtain ⟨y0, q1, rfl⟩ := Option.map_eq_some_iff.1 hy
      exact cellE m y0 u (n2 m y0 u q1 hu)
    | un => trivial
    | ag xs => exact cellE 0 (.ag xs) v a9
    | mb _ _ => simp only [RNs, RN] at a9; cases a9
    | bx _ _ => simp only [RNs, RN] at a9; cases a9
    | el _ _ _ _ => simp only [RNs, RN] at a9; cases a9
    | bs _ _ _ => simp only [RNs, RN] at a9; cases a9
    | _ => simp only [RNs] at a9; exact cellE 0 _ v a9
  · have hR := a10 j d u hd hu
    cases d with
    | un => trivial
    | ag xs =>
      obtain ⟨us, rfl, n1, n2⟩ := hR
      refine ⟨us, rfl, n1, fun l x z hx hz => (n2 l x z hx hz).imp id fun q => ?_⟩
      exact Rep.move mv q (fun p hp => by injection hp with hp; subst hp; trivial)
    | _ => exact Rep.move mv (show Rep g'.S g'.up w' (some (.par j 0)) _ u from hR) (fun p hp => by injection hp with hp; subst hp; trivial)
theorem FCon.ice {P : Program} {f : FuncId} {args : List D} {y : D} (h : FCon P f args (fun r _ => frA r = y)) : FCon P f args (fun r _ => r = y) := h.frz.mono fun _ _ ⟨_, e, q⟩ => q.trans e
theorem FCon.noout {P : Program} {f : FuncId} {args : List D} {R : D → Prop} (h : FCon P f args (fun r _ => R r)) : FCon P f args (fun r o => R r ∧ o = []) := by
  refine ⟨h.ent, fun w g vs h1 h2 h3 h4 => (h.run w g vs h1 h2 h3 h4).mono ?_⟩
  rintro e w' ⟨v, g', r, o, a1, a2, a3, a4, a5, a6, a7, a8, a9, a10⟩
  exact ⟨v, g', r, [], a1, a2, a3, a4, a5, a6, a7, ⟨a8, rfl⟩, a9, fun j d u q => by simp at q⟩
theorem pure_rows {α : Type} {f : α → List D} (h : ∀ x, ∀ d ∈ f x, Pure d) (e k : Nat) (xs : List α) : Pure (.osl e k (xs.map f)) := .osl fun i j row d hi hj => by
  rw [List.getElem?_map] at hi
  obtain ⟨y, -, rfl⟩ := Option.map_eq_some_iff.1 hi
  exact h y d (List.mem_of_getElem? hj)
theorem pure_agL (xs : List D) : Pure (.ag xs) = ∀ d ∈ xs, Pure d := propext ⟨fun h d hd => by
  obtain ⟨j, hj⟩ := List.mem_iff_getElem?.1 hd
  cases h with
  | ag h => exact h j d hj, fun h => .ag fun j d hj => h d (List.mem_of_getElem? hj)⟩
attribute [go_sem] pure_agL List.forall_mem_cons List.not_mem_nil false_imp_iff
theorem FCon.wk {P : Program} {f : FuncId} {args : List D} {Rs Rs' : D → List D → Prop} (h : FCon P f args Rs) (hr : ∀ r o, Rs r o → ∃ r', Rs' r' o ∧ ∀ (g : Gh) (w : World) (v : Value), RNs g w r v → RNs g w r' v) : FCon P f args Rs' := by
  refine ⟨h.ent, fun w g vs h1 h2 h3 h4 => (h.run w g vs h1 h2 h3 h4).mono ?_⟩
  rintro e w' ⟨v, g', r, o, a1, a2, a3, a4, a5, a6, a7, a8, a9, a10⟩
  obtain ⟨r', b1, b2⟩ := hr r o a8
  exact ⟨v, g', r', o, a1, a2, a3, a4, a5, a6, a7, b1, b2 _ _ _ a9, a10⟩
theorem Rep.nil_osl {S : Nat → Prop} {up : Nat → Option Pos} {w : World} {p : Option Pos} {v : Value} (e k : Nat) (h : Rep S up w p .nil v) : Rep S up w p (.osl e k []) v := by cases h; exact .osl0
theorem Rep.nil_sl {S : Nat → Prop} {up : Nat → Option Pos} {w : World} {p : Option Pos} {v : Value} (k : Nat) (h : Rep S up w p .nil v) : Rep S up w p (.sl k []) v := by cases h; exact .sl0 (Nat.zero_le _)
theorem FCon.nilO {P : Program} {f : FuncId} {args : List D} {b : Bool} {e k : Nat} {rows : List (List D)} (h : FCon P f args (fun r _ => r = if b then .osl e k rows else .nil)) : FCon P f args (fun r _ => r = .osl e k (if b then rows else [])) := h.wk fun r o e' => by
  subst e'
  cases b with
  | true => exact ⟨_, rfl, fun _ _ _ q => q⟩
  | false => exact ⟨_, rfl, fun _ _ _ q => Rep.nil_osl _ _ q⟩
theorem FCon.nilS {P : Program} {f : FuncId} {args : List D} {b : Bool} {k : Nat} {rows : List (List D)} (h : FCon P f args (fun r _ => r = if b then .sl k rows else .nil)) : FCon P f args (fun r _ => r = .sl k (if b then rows else [])) := h.wk fun r o e' => by
  subst e'
  cases b with
  | true => exact ⟨_, rfl, fun _ _ _ q => q⟩
  | false => exact ⟨_, rfl, fun _ _ _ q => Rep.nil_sl _ q⟩
end Go.Proofs.YtgcdbmcoendcdaaGreat

namespace Go.Proofs.YtgcdbmcoendcdaaGreat
set_option linter.unusedVariables false
set_option linter.unusedSimpArgs false
open Go.RowKit
theorem scC_comm (q r : Nat → Bool) (y : D) : scC q (scC r y) = scC r (scC q y) := by
  cases y with
  | bx id o => by_cases h1 : q id = true <;> by_cases h2 : r id = true <;> simp [scC, h1, h2]
  | el id k i o => by_cases h1 : q id = true <;> by_cases h2 : r id = true <;> simp [scC, h1, h2]
  | bs id k n => by_cases h1 : q id = true <;> by_cases h2 : r id = true <;> simp [scC, h1, h2]
  | _ => rfl
theorem scC_commL (q r : Nat → Bool) (l : List D) : (l.map (scC r)).map (scC q) = (l.map (scC q)).map (scC r) := by
  rw [List.map_map, List.map_map]; exact List.map_congr_left fun y _ => scC_comm q r y
theorem scE_comm (q r : Nat → Bool) (y : D) : scE q (scE r y) = scE r (scE q y) := by
  cases y with
  | ag xs => simp only [scE, scC_commL q r]
  | bx id o => by_cases h1 : q id = true <;> by_cases h2 : r id = true <;> simp [scE, scC, h1, h2]
  | el id k i o => by_cases h1 : q id = true <;> by_cases h2 : r id = true <;> simp [scE, scC, h1, h2]
  | bs id k n => by_cases h1 : q id = true <;> by_cases h2 : r id = true <;> simp [scE, scC, h1, h2]
  | _ => rfl
theorem scT_comm (q r : Nat → Bool) (y : D) : scT q (scT r y) = scT r (scT q y) := by
  cases y with
  | tup xs => simp only [scT, List.map_map]; congr 1; exact List.map_congr_left fun y _ => scE_comm q r y
  | mb c x => simp only [scT, scE_comm q r]
  | ag xs => exact scE_comm q r (.ag xs)
  | bx id o => by_cases h1 : q id = true <;> by_cases h2 : r id = true <;> simp [scT, scE, scC, h1, h2]
  | el id k i o => by_cases h1 : q id = true <;> by_cases h2 : r id = true <;> simp [scT, scE, scC, h1, h2]
  | bs id k n => by_cases h1 : q id = true <;> by_cases h2 : r id = true <;> simp [scT, scE, scC, h1, h2]
  | _ => rfl
theorem scO_comm (q r : Nat → Bool) (o : Ob) : scO q (scO r o) = scO r (scO q o) := by
  cases o <;> simp only [scO, scC_commL q r, scC_comm q r]
theorem mk2 {ρ : St} {d e : Nat} {o p : Ob} {x y : D} (h : d ≠ e) (ho : scO (fun i => i != e) o = o) (hp : scO (fun i => i != d) p = p) (hx : scT (fun i => i != e) x = x) (hy : scT (fun i => i != d) y = y) :
    ((((((ρ.sc (fun i => i != e) (fun i => i != e)).setB e p).put (some e) y).sc (fun i => i != d) (fun i => i != d)).setB d o).put (some d) x) = ((((((ρ.sc (fun i => i != d) (fun i => i != d)).setB d o).put (some d) x).sc (fun i => i != e) (fun i => i != e)).setB e p).put (some e) y) := by
  simp only [St.put, St.setB, St.sc]
  congr 1
  · funext i
    by_cases h1 : i = d
    · subst h1; rw [if_pos rfl, if_neg h, if_pos rfl, hx]
    · rw [if_neg h1]
      by_cases h2 : i = e
      · subst h2; rw [if_pos rfl, if_pos rfl, hy]
      · rw [if_neg h2, if_neg h2, if_neg h1]; exact scT_comm _ _ _
  · funext i
    by_cases h1 : i = d
    · subst h1
      have h3 : (i != e) = true := by simpa using h
      rw [if_pos rfl, if_neg h, if_pos h3, if_pos rfl, Option.map_some, ho]
    · rw [if_neg h1]
      by_cases h2 : i = e
      · subst h2
        have h3 : (i != d) = true := by simpa using h1
        rw [if_pos h3, if_pos rfl, if_pos rfl, Option.map_some, hp]
      · have h3 : (i != d) = true := by simpa using h1
        have h4 : (i != e) = true := by simpa using h2
        rw [if_pos h3, if_neg h2, if_neg h2, if_pos h4, if_pos h4, if_neg h1, if_pos h3, Option.map_map, Option.map_map]
        cases ρ.b i with
        | none => rfl
        | some q => exact congrArg some (scO_comm _ _ q)
theorem q_Meet {σ τ : St} (h : Meet σ τ) : Meet σ τ := h
theorem zM {σ τ : St} (h : σ = τ := by first | rfl | (rw [mk2 (by decide) rfl rfl rfl rfl]; done) | fail) : Meet σ τ := h
structure WFx (p : Prop) : Prop where
  out : p
theorem q_aqsN {M : Md} {ops : Array Oper} {fl : Nat → Nat → Bool} {K : St → Prop} {t : Tr} {acc : List (Nat × Oper)} {σ : St} (h : aqsN M ops fl K t acc σ) : aqsN M ops fl K t acc σ := h
theorem q_aops {M : Md} {ops : Array Oper} {K : St → Prop} {l : List Oper} {σ : St} (h : aops M ops K l σ) : aops M ops K l σ := h
theorem q_aft {σ : St} {dst : Option Tmp} {gs : List Gv} {K : St → Prop} {r : D} {outs : List D} (h : aft σ dst gs K r outs) : aft σ dst gs K r outs := h
theorem q_CallG {P : Program} {f : FuncId} {ars : List D} {bs : List Nat} {K : D → List D → Prop} (h : CallG P f ars bs K) : CallG P f ars bs K := h
theorem q_CallE {P : Program} {f : FuncId} {ars : List D} {bs : List Nat} {K : D → List D → Prop} (h : CallE P f ars bs K) : CallE P f ars bs K := h
theorem q_CallQ {P : Program} {f : FuncId} {ars : List D} {bs : List Nat} {c : Bool} {wr : D → D} {σ : St} {dst : Option Tmp} {K : St → Prop} (h : CallQ P f ars bs c wr σ dst K) : CallQ P f ars bs c wr σ dst K := h
theorem q_imp {c : Prop} {M : Md} {N : Nat} {pl : List (Nat × Plan)} {cd : Code} {K : Exit → St → Prop} {σ : St} (h : c → AC M N pl cd K σ) : c → AC M N pl cd K σ := h
theorem q_ff {p : Prop} (h : False → p) : False → p := h
theorem q_and {a b : Prop} (h : a ∧ b) : a ∧ b := h
theorem ai {a b : Prop} (x : a) (y : b) : a ∧ b := ⟨x, y⟩
theorem f0 : WFx (∀ n : Nat, n + 0 = n) := ⟨fun _ => rfl⟩
theorem zS {G R : Prop} (r : R) (h : R → G := by
  intro r
  with_reducible first | apply q_aqsN | apply q_aops | apply ACallQ_no (.s (.bool false)) | apply AC_go | apply ACallQ_go | apply q_aft
  simp only [go_sem, simprocAttr, hWf.out]
  fail_if_success (with_reducible refine (?_ : False))
  exact r) : G := h r
theorem zE {G : Prop} (h : G := by
  with_reducible first | apply q_aqsN | apply q_aops | apply ACallQ_no (.s (.bool false)) | apply AC_go | apply ACallQ_go | apply q_aft
  simp only [go_sem, simprocAttr, hWf.out]
  done) : G := h
theorem zY {G R : Prop} (r : R) (h : R → G := by
  intro r
  with_reducible first | apply q_aqsN | apply q_aops | apply ACallQ_no (.s (.bool false)) | apply ACallQ_go | apply q_aft
  simp only [go_sem, simprocAttr, hWf.out]
  fail_if_success (with_reducible refine (?_ : False))
  exact r) : G := h r
theorem zT {G R : Prop} (r : R) (h : R → G := by
  intro r
  first
  | ((with_reducible apply CallQ_no); exact r)
  | (simp only [go_sem, simprocAttr, hWf.out]; exact r)
  | fail) : G := h r
theorem zB0 {c : Prop} {M : Md} {N : Nat} {pl : List (Nat × Plan)} {cd : Code} {K : Exit → St → Prop} {σ : St} (h : c → False := by
  intro hb
  (try simp only [decide_eq_true_eq, decide_eq_false_iff_not, Bool.and_eq_true, Bool.or_eq_true, Bool.and_eq_false_iff, Bool.or_eq_false_iff, Bool.not_eq_true', Bool.not_eq_false', beq_iff_eq, beq_eq_false_iff_ne, bne_iff_ne, bne_eq_false_iff_eq, gt_iff_lt, ge_iff_le, Int.not_lt, Int.not_le] at hb) <;> omega) : c → AC M N pl cd K σ := fun q => (h q).elim
theorem zB {c d : Prop} {M : Md} {N : Nat} {pl : List (Nat × Plan)} {cd : Code} {K : Exit → St → Prop} {σ : St} (k : d → AC M N pl cd K σ) (h : c → d := by
  intro hb
  (try simp only [decide_eq_true_eq, decide_eq_false_iff_not, Bool.and_eq_true, Bool.or_eq_true, Bool.and_eq_false_iff, Bool.or_eq_false_iff, Bool.not_eq_true', Bool.not_eq_false', beq_iff_eq, beq_eq_false_iff_ne, bne_iff_ne, bne_eq_false_iff_eq, gt_iff_lt, ge_iff_le, Int.not_lt, Int.not_le] at hb)
  exact hb) : c → AC M N pl cd K σ := fun q => k (h q)
theorem zC {G : Prop} (h : G := by
  first
  | ((with_reducible intro hff); exact False.elim hff)
  | omega
  | (simp only [go_sem, simprocAttr, hWf.out]; done)
  | (intro hg; simp only [Bool.and_eq_true, Bool.or_eq_true, Bool.not_eq_true', Bool.and_eq_false_iff, Bool.or_eq_false_iff, Bool.not_eq_false', decide_eq_true_eq, decide_eq_false_iff_not, Bool.not_not, gt_iff_lt, ge_iff_le, Int.not_lt, Int.not_le] at hg ⊢; first | omega | (simp_all; done) | fail)
  | fail) : G := h
theorem zG {P : Program} {f : FuncId} {ars : List D} {bs : List Nat} {K : D → List D → Prop} {X : D} (hF : FCon P f ars (fun r _ => r = X)) (h : (bs = [] ∨ (Pure X ∧ ∀ o ∈ ([] : List D), Pure o)) ∧ K X []) : CallG P f ars bs K :=
  CallG_mk (FCon.noout (R := fun r => r = X) hF) (by rintro _ _ ⟨rfl, rfl⟩; exact h)
theorem zK {F G R : Prop} (c : F) (r : R) (h : F → R → G := by
  intro c r
  first
  | ((with_reducible apply q_CallG); exact zG c r)
  | ((with_reducible apply q_CallQ); exact CallQ_mk c r)
  | fail) : G := h c r
theorem zG2 {P : Program} {f : FuncId} {ars : List D} {bs : List Nat} {K : D → List D → Prop} {X : D} {Y : List D} (hF : FCon P f ars (fun r o => r = X ∧ o = Y)) (h : (bs = [] ∨ (Pure X ∧ ∀ o ∈ Y, Pure o)) ∧ K X Y) : CallG P f ars bs K :=
  CallG_mk hF (by rintro _ _ ⟨rfl, rfl⟩; exact h)
theorem zH {F G R : Prop} (c : F) (r : R) (h : F → R → G := by
  intro c r
  first
  | ((with_reducible apply q_CallG); exact zG2 c r)
  | ((with_reducible apply q_CallQ); exact CallQ_mk c r)
  | fail) : G := h c r
end Go.Proofs.YtgcdbmcoendcdaaGreat
