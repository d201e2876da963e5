import Derived.Test.YthkgncddilkmbaaGk
/- The second engine, twelfth part: boxes closed and opened. -/
namespace Go.Proofs.Ythkgncddilkmbaa
set_option linter.unusedVariables false
set_option linter.unusedSimpArgs false
open Go.RowKit
theorem fdL_at {σ : St} : ∀ (l : List D) (ob : Prop) (ds : List D), fdL σ l = some (ob, ds) → ob → ds.length = l.length ∧ ∀ (j : Nat) (c d : D), l[j]? = some c → ds[j]? = some d → ∃ o1, fdC σ c = some (o1, d) ∧ o1
  | [], ob, ds, h, ho => by injection h with h; injection h with e1 e2; subst e2; exact ⟨rfl, fun j c d q => by simp at q⟩
  | c :: l, ob, ds, h, ho => by
    unfold fdL at h
    split at h
    · rename_i o1 d o2 ds' h1 h2
      injection h with h; injection h with e1 e2
      subst e1 e2
      obtain ⟨i1, i2⟩ := fdL_at l o2 ds' h2 ho.2
      refine ⟨by simp [i1], fun j c' d' q1 q2 => ?_⟩
      cases j with
      | zero => simp at q1 q2; subst q1 q2; exact ⟨o1, h1, ho.1⟩
      | succ j => exact i2 j c' d' (by simpa using q1) (by simpa using q2)
    · cases h
/-- a box takes along what its cells refer to. -/
def foldB (σ : St) (id : Nat) : Option (Prop × List D × St) := match σ.b id with
  | some (.box row) => match fdL σ row with
    | some (ob, ds) => some (ob ∧ nodB (idsC row) = true ∧ pOut (idsC row) id = true, ds, (σ.sc (pOut (idsC row)) (pOut (idsC row))).setB id (.box ds))
    | none => none
  | _ => none
theorem fdC_deep {σ : St} {c d : D} {ob : Prop} (h : fdC σ c = some (ob, d)) : deepB d = true := by
  cases c with
  | bs id k n => simp only [fdC] at h; split at h; (injection h with h; injection h with _ h; subst h; rfl); cases h
  | bx id off => simp only [fdC] at h; split at h; (injection h with h; injection h with _ h; subst h; rfl); cases h
  | el _ _ _ _ => cases h
  | ag _ => cases h
  | un => cases h
  | tup _ => cases h
  | mb _ _ => cases h
  | _ => (simp only [fdC] at h; injection h with h; injection h with _ h; subst h; rfl)
theorem fdL_deep {σ : St} {l ds : List D} {ob : Prop} (h : fdL σ l = some (ob, ds)) : ds.all deepB = true := by
  induction l generalizing ob ds with
  | nil => injection h with h; injection h with _ h; subst h; rfl
  | cons c l ih =>
    unfold fdL at h
    split at h
    · rename_i o1 d o2 ds' h1 h2
      injection h with h; injection h with _ h
      subst h
      simp only [List.all_cons, Bool.and_eq_true]
      exact ⟨fdC_deep h1, ih h2⟩
    · cases h
theorem Rel.foldB {x : Cx} {g : Gh} {σ σ' : St} {a : Act} {w : World} (h : Rel x g σ a w) {id : Nat} {ob : Prop} {ds : List D} (hf : foldB σ id = some (ob, ds, σ')) (ho : ob) : ∃ g', Rel x g' σ' a w := by
  unfold Go.Proofs.Ythkgncddilkmbaa.foldB at hf
  split at hf
  · rename_i row hb
    split at hf
    · rename_i ob' ds' hfd
      injection hf with hf; injection hf with e1 e2; injection e2 with e2 e3
      subst e1 e2 e3
      obtain ⟨o1, o2, o3⟩ := ho
      obtain ⟨b, cs, ty, b1, b2, b3, b4, b5⟩ := h.ob id _ hb
      obtain ⟨l1, l2⟩ := fdL_at _ _ _ hfd o1
      have hne : id ∉ idsC row := fun q => pOut_spec o3 id q rfl
      let π : Pos → Pos := fun p => match p with
        | .root m => if m ∈ idsC row then .cell b (tgtC row m) else .root m
        | p => p
      have ev : Ev (fun _ => True) π (pOut (idsC row)) (pOut (idsC row)) g ⟨g.β, g.κ, fun c => (g.up c).map π, g.S⟩ w w := by
        refine ⟨⟨fun c hc => ⟨hc, rfl⟩, fun c p hc _ => ⟨by show (g.up c).map π = _; rw [hc]; rfl, rfl⟩, fun c p o _ _ => ⟨trivial, rfl⟩⟩, fun m _ => ⟨rfl, rfl⟩, fun m hm => ⟨hm, trivial, ?_⟩⟩
        show (if m ∈ idsC row then _ else _) = _
        rw [if_neg (fun q => pOut_spec hm m q rfl)]
      have hR := h.ev ev (Below.refl _ _) (fun b _ _ => rfl) (fun b _ hs => .inl hs) h.new (fun c p hc => by
        simp only at hc
        obtain ⟨p', hp', -⟩ := Option.map_eq_some_iff.1 hc
        exact h.own c p' hp')
      refine ⟨_, hR.setB (id := id) ⟨b, cs, ty, b1, ?_, b3, by rw [l1]; exact b4, fun j d hj => ?_⟩ (h.par id _ hb)⟩
      · show (g.up b).map π = _
        rw [b2]
        show some (if id ∈ idsC row then _ else _) = _
        rw [if_neg hne]
      · have hlt : j < row.length := by rw [← l1]; exact (List.getElem?_eq_some_iff.1 hj).1
        have hc : row[j]? = some row[j] := List.getElem?_eq_getElem hlt
        obtain ⟨o4, f1, f2⟩ := l2 j _ d hc hj
        rcases fdC_ok h f1 f2 (b5 j _ hc) with ⟨-, q⟩ | ⟨m, q1, q2⟩
        · have := Rep.move ev.toMv q (fun _ _ => trivial)
          exact this.rc
        · have := Rep.move ev.toMv q2 (fun _ _ => trivial)
          simp only [Option.map_some, π, if_pos (idsC_mem hc q1), tgtC_at o2 hc q1] at this
          exact this.rc
    · cases hf
  · cases hf
/-- the names of what a box's cells own. -/
def nmU (id j : Nat) : Nat := 1000000 * (j + 1) + id
def unfC (id j : Nat) : D → D
  | .osl _ k rows => .bs (nmU id j) k rows.length
  | .opt _ => .bx (nmU id j) 0
  | d => d
def unfL (id : Nat) : Nat → List D → List D
  | _, [] => []
  | j, d :: l => unfC id j d :: unfL id (j + 1) l
def unfD : D → Option Ob
  | .osl e k rows => some (.arr e k rows)
  | .opt row => some (.box row)
  | _ => none
def unfO (id : Nat) (row : List D) (i : Nat) : Option Ob := if i % 1000000 = id ∧ 1000000 ≤ i then (row[i / 1000000 - 1]?).bind unfD else none
def pUn (id : Nat) (row : List D) (i : Nat) : Bool := (unfO id row i).isNone
def St.unfB (σ : St) (id : Nat) (row : List D) : St :=
  ⟨fun i => scT (pUn id row) (σ.t i), fun i => if i = id then some (.box (unfL id 0 row)) else match unfO id row i with
    | some o => some o
    | none => (σ.b i).map (scO (pUn id row))⟩
theorem unfL_at (id : Nat) : ∀ (l : List D) (q j : Nat), (unfL id q l)[j]? = (l[j]?).map (unfC id (q + j))
  | [], q, j => by simp [unfL]
  | d :: l, q, 0 => by simp [unfL]
  | d :: l, q, j + 1 => by
    rw [unfL, List.getElem?_cons_succ, unfL_at id l (q + 1) j, List.getElem?_cons_succ]
    congr 2; omega
theorem unfL_len (id : Nat) (l : List D) (q : Nat) : (unfL id q l).length = l.length := by
  induction l generalizing q with
  | nil => rfl
  | cons d l ih => simp [unfL, ih]
def blkV : Value → Option Nat
  | .slice (some a) _ _ => some a.block
  | .pointer (some a) => some a.block
  | _ => none
def capV : Value → Nat
  | .slice (some _) _ c => c
  | _ => 0
theorem Rel.unfB {x : Cx} {g : Gh} {σ : St} {a : Act} {w : World} (h : Rel x g σ a w) {id : Nat} {row : List D} (hb : σ.b id = some (.box row)) (hd : row.all deepB = true) (hid : id < 1000000) : ∃ g', Rel x g' (σ.unfB id row) a w := by
  obtain ⟨b, cs, ty, b1, b2, b3, b4, b5⟩ := h.ob id _ hb
  have hcell : ∀ (j : Nat) (d : D), row[j]? = some d → Rep g.S g.up w (some (.cell b j)) d (cs.getD j undef) := fun j d hj => (b5 j d hj).deep (List.all_eq_true.1 hd d (List.mem_of_getElem? hj))
  let own : Nat → Bool := fun j => ((row[j]?).bind unfD).isSome
  have hnm : ∀ j, unfO id row (nmU id j) = (row[j]?).bind unfD := fun j => by
    unfold unfO nmU
    rw [if_pos (by omega)]
    congr 2; omega
  have hnm' : ∀ i o, unfO id row i = some o → ∃ j, i = nmU id j ∧ (row[j]?).bind unfD = some o := fun i o hi => by
    unfold unfO at hi
    split at hi
    · rename_i q
      exact ⟨i / 1000000 - 1, by unfold nmU; omega, hi⟩
    · cases hi
  have hnid : ∀ j, nmU id j ≠ id := fun j => by unfold nmU; omega
  let π : Pos → Pos := fun p => match p with
    | .cell c j => if c = b ∧ own j = true then .root (nmU id j) else .cell c j
    | p => p
  let g' : Gh := ⟨fun i => if pUn id row i = true then g.β i else blkV (cs.getD (i / 1000000 - 1) undef), fun i => if pUn id row i = true then g.κ i else capV (cs.getD (i / 1000000 - 1) undef), fun c => (g.up c).map π, g.S⟩
  have hnj : ∀ j, nmU id j / 1000000 - 1 = j := fun j => by unfold nmU; omega
  have hpn : ∀ j o, (row[j]?).bind unfD = some o → pUn id row (nmU id j) = false := fun j o q => by unfold pUn; rw [hnm, q]; rfl
  have hpid : pUn id row id = true := by
    unfold pUn
    cases hq : unfO id row id with
    | none => rfl
    | some o => obtain ⟨j, e, -⟩ := hnm' _ _ hq; exact absurd e.symm (hnid j)
  have ev : Ev (fun p => p ≠ .root id ∧ ∀ i, p = .root i → pUn id row i = true) π (pUn id row) (fun i => pUn id row i && i != id) g g' w w := by
    refine ⟨⟨fun c hc => ⟨hc, rfl⟩, fun c p hc hp => ⟨by show (g.up c).map π = _; rw [hc]; rfl, rfl⟩, fun c p o hc hp => ⟨⟨by simp, by simp⟩, ?_⟩⟩, fun i hi => ⟨by show (if _ then _ else _) = _; rw [if_pos hi], by show (if _ then _ else _) = _; rw [if_pos hi]⟩, fun i hi => ?_⟩
    · show (if c = b ∧ own o = true then _ else _) = _
      rw [if_neg]
      rintro ⟨rfl, -⟩
      rw [b2] at hc; injection hc with hc
      exact hp.1 hc.symm
    · simp only [Bool.and_eq_true, bne_iff_ne, ne_eq] at hi
      exact ⟨hi.1, ⟨fun e => by injection e with e; exact hi.2 e, fun i' e => by injection e with e; subst e; exact hi.1⟩, rfl⟩
  have hR := h.ev ev (Below.refl _ _) (fun b _ _ => rfl) (fun b _ hs => .inl hs) h.new (fun c p hc => by
    simp only [g'] at hc
    obtain ⟨p', hp', -⟩ := Option.map_eq_some_iff.1 hc
    exact h.own c p' hp')
  have hmv : ∀ (j : Nat) (d : D), row[j]? = some d → Rep g'.S g'.up w (some (if own j = true then .root (nmU id j) else .cell b j)) d (cs.getD j undef) := fun j d hj => by
    have := Rep.move ev.toMv (hcell j d hj) (fun q hq => by injection hq with hq; subst hq; exact ⟨by simp, by simp⟩)
    rw [Option.map_some] at this
    by_cases ho : own j = true
    · rw [if_pos ho]
      have e : π (.cell b j) = .root (nmU id j) := by show (if b = b ∧ own j = true then _ else _) = _; rw [if_pos ⟨rfl, ho⟩]
      rw [e] at this; exact this
    · rw [if_neg ho]
      have e : π (.cell b j) = .cell b j := by show (if b = b ∧ own j = true then _ else _) = _; rw [if_neg (fun q => ho q.2)]
      rw [e] at this; exact this
  refine ⟨g', hR.bel, hR.fr, hR.dfr, hR.sz, hR.tm, hR.s0, hR.old, hR.new, hR.own, fun i o hi => ?_, fun i o hi hq => ?_⟩
  rotate_left
  · have hp : pUn id row i = true := by
      unfold pUn
      cases hu : unfO id row i with
      | none => rfl
      | some o' =>
        obtain ⟨j, rfl, -⟩ := hnm' _ _ hu
        exfalso
        unfold isP nmU at hq
        rw [Bool.and_eq_true, decide_eq_true_eq, decide_eq_true_eq] at hq
        have := hq.2
        omega
    have hb' : ∃ o', σ.b i = some o' := by
      simp only [St.unfB] at hi
      split at hi
      · rename_i e; subst e; exact ⟨_, hb⟩
      · split at hi
        · rename_i hu; unfold pUn at hp; rw [hu] at hp; cases hp
        · obtain ⟨o0, q1, -⟩ := Option.map_eq_some_iff.1 hi; exact ⟨o0, q1⟩
    obtain ⟨o', hb'⟩ := hb'
    have := h.par i o' hb' hq
    constructor
    · show (if _ then _ else _) = _
      rw [if_pos hp]; exact this.1
    · show (if _ then _ else _) = _
      rw [if_pos hp]; exact this.2
  simp only [St.unfB] at hi
  split at hi
  · rename_i e
    subst e
    injection hi with hi
    subst hi
    refine ⟨b, cs, ty, ?_, ?_, b3, by rw [unfL_len]; exact b4, fun j d hj => ?_⟩
    · show (if _ then _ else _) = _
      rw [if_pos hpid]; exact b1
    · show (g.up b).map π = _
      rw [b2]; rfl
    · rw [unfL_at, Nat.zero_add] at hj
      obtain ⟨d0, q1, rfl⟩ := Option.map_eq_some_iff.1 hj
      have hm := hmv j d0 q1
      by_cases ho : own j = true
      · rw [if_pos ho] at hm
        have hβ : g'.β (nmU i j) = blkV (cs.getD j undef) ∧ g'.κ (nmU i j) = capV (cs.getD j undef) := by
          obtain ⟨o', ho'⟩ := Option.isSome_iff_exists.1 ho
          have hp := hpn j o' ho'
          constructor
          · show (if _ then _ else _) = _
            rw [if_neg (by rw [hp]; simp), hnj]
          · show (if _ then _ else _) = _
            rw [if_neg (by rw [hp]; simp), hnj]
        generalize cs.getD j undef = v at hm hβ
        cases d0 with
        | osl e k rows =>
          show v = .slice ((g'.β (nmU i j)).map _) _ _ ∧ _
          rw [hβ.1, hβ.2]
          cases hm with
          | osl0 => exact ⟨rfl, Nat.zero_le _, by simp [capV, maxLen], fun _ => rfl⟩
          | osl cs' r1 r2 r3 r4 r5 r6 r7 => exact ⟨rfl, r3, r4, fun q => by cases q⟩
        | opt r =>
          cases hm with
          | opt cs' r1 r2 r3 r4 => exact ⟨_, hβ.1, rfl⟩
        | _ => (simp only [own, q1, Option.bind_some, unfD] at ho; cases ho)
      · rw [if_neg ho] at hm
        have hc : unfC i j d0 = d0 := by
          cases d0 with
          | osl e k rows => exact absurd (by simp only [own, q1, Option.bind_some, unfD]; rfl) ho
          | opt r => exact absurd (by simp only [own, q1, Option.bind_some, unfD]; rfl) ho
          | _ => rfl
        rw [hc]; exact hm.rc
  · rename_i hne
    split at hi
    · rename_i o' ho'
      injection hi with hi
      subst hi
      obtain ⟨j, rfl, hj⟩ := hnm' _ _ ho'
      obtain ⟨d0, q1, q2⟩ := Option.bind_eq_some_iff.1 hj
      have hm := hmv j d0 q1
      rw [if_pos (by simp only [own, hj]; rfl)] at hm
      have hp := hpn j _ hj
      have hβ : g'.β (nmU id j) = blkV (cs.getD j undef) ∧ g'.κ (nmU id j) = capV (cs.getD j undef) := by
        constructor
        · show (if _ then _ else _) = _
          rw [if_neg (by rw [hp]; simp), hnj]
        · show (if _ then _ else _) = _
          rw [if_neg (by rw [hp]; simp), hnj]
      generalize cs.getD j undef = v at hm hβ
      cases d0 with
      | osl e k rows =>
        injection q2 with q2
        subst q2
        show Rep _ _ _ _ _ _
        rw [hβ.1, hβ.2]
        cases hm with
        | osl0 => exact .osl0
        | osl cs' r1 r2 r3 r4 r5 r6 r7 => exact .osl cs' r1 r2 r3 r4 r5 r6 r7
      | opt r =>
        injection q2 with q2
        subst q2
        cases hm with
        | opt cs' r1 r2 r3 r4 => exact ⟨_, cs', _, hβ.1, r1, r2, r3, fun j' d' hj' => (r4 j' d' hj').rc⟩
      | _ => cases q2
    · rename_i ho'
      obtain ⟨o0, q1, rfl⟩ := Option.map_eq_some_iff.1 hi
      exact hR.ob i _ (by
        simp only [St.sc]
        rw [if_pos (by simp [pUn, ho', hne]), q1]; rfl)
/-- a thing at a name. -/
def refC (nm : Nat) : D → D
  | .osl _ k rows => .bs nm k rows.length
  | .opt _ => .bx nm 0
  | c => c
theorem Rep.ref {g : Gh} {w : World} {nm : Nat} {c : D} {u : Value} (h : Rep g.S g.up w (some (.root nm)) c u) (hβ : g.β nm = blkV u) (hκ : g.κ nm = capV u) : RC g w none (refC nm c) u := by
  cases c with
  | osl e k rows =>
    show u = .slice ((g.β nm).map _) _ _ ∧ _
    rw [hβ, hκ]
    cases h with
    | osl0 => exact ⟨rfl, Nat.zero_le _, by simp [capV, maxLen], fun _ => rfl⟩
    | osl cs' r1 r2 r3 r4 r5 r6 r7 => exact ⟨rfl, r3, r4, fun q => by cases q⟩
  | opt r =>
    cases h with
    | opt cs' r1 r2 r3 r4 => exact ⟨_, hβ, rfl⟩
  | _ => exact (h.free (fun _ _ _ q => by cases q) (fun _ q => by cases q) none).rc
/-- an owned thing at a name. -/
theorem Rep.ro {g : Gh} {w : World} {i : Nat} {c : D} {o : Ob} {u : Value} (h : Rep g.S g.up w (some (.root i)) c u) (hc : unfD c = some o) (hβ : g.β i = blkV u) (hκ : ∀ e k rows, c = .osl e k rows → g.κ i = capV u) : RO g w i o := by
  cases c with
  | osl e k rows =>
    injection hc with hc
    subst hc
    show Rep _ _ _ _ _ _
    rw [hβ, hκ e k rows rfl]
    cases h with
    | osl0 => exact .osl0
    | osl cs r1 r2 r3 r4 r5 r6 r7 => exact .osl cs r1 r2 r3 r4 r5 r6 r7
  | opt r =>
    injection hc with hc
    subst hc
    cases h with
    | opt cs' r1 r2 r3 r4 => exact ⟨_, cs', _, hβ, r1, r2, r3, fun j' d' hj' => (r4 j' d' hj').rc⟩
  | _ => cases hc
theorem ij_ne {k i j i0 c0 : Nat} (hj : j < k) (hc : c0 < k) (h : ¬ (i = i0 ∧ j = c0)) : i * k + j ≠ i0 * k + c0 := by
  intro e
  rcases Nat.lt_trichotomy i i0 with q | q | q
  · have : (i + 1) * k ≤ i0 * k := Nat.mul_le_mul_right _ q
    rw [Nat.add_mul, Nat.one_mul] at this; omega
  · subst q; exact h ⟨rfl, by omega⟩
  · have : (i0 + 1) * k ≤ i * k := Nat.mul_le_mul_right _ q
    rw [Nat.add_mul, Nat.one_mul] at this; omega
/-- a cell of an array is opened: what it owns gets a name. -/
def St.opE (σ : St) (id e k : Nat) (rows : List (List D)) (i c nm : Nat) (d : D) (o : Ob) : St := ((σ.sc (pOut [nm]) (pOut [nm, id])).setB id (.hol e k rows i c (refC nm d))).setB nm o
theorem Rel.openE {x : Cx} {g : Gh} {σ : St} {a : Act} {w : World} (h : Rel x g σ a w) {id e k : Nat} {rows : List (List D)} (hb : σ.b id = some (.arr e k rows)) (i c nm : Nat) {row : List D} {d : D} {o : Ob} (hi : rows[i]? = some row) (hd : row[c]? = some d) (hu : unfD d = some o) (hne : nm ≠ id) (hnP : isP nm = false) : ∃ g', Rel x g' (σ.opE id e k rows i c nm d o) a w := by
  have hR0 : Rep g.S g.up w (some (.root id)) (.osl e k rows) (.slice ((g.β id).map fun b => ⟨b, 0, none⟩) rows.length (g.κ id)) := h.ob id _ hb
  generalize hvv : Value.slice ((g.β id).map fun b => (⟨b, 0, none⟩ : Addr)) rows.length (g.κ id) = vv at hR0
  cases hR0 with
  | osl0 => simp at hi
  | @osl _ _ _ _ b co cs q1 q2 q3 q4 q5 q6 q7 =>
    injection hvv with hv1 _ hv2
    have hβ : g.β id = some b := by
      cases hq : g.β id with
      | none => rw [hq] at hv1; cases hv1
      | some b' => rw [hq] at hv1; injection hv1 with hv1; injection hv1 with hv1; rw [hv1]
    subst hv2
    have hck : c < k := by rw [← q6 i row hi]; exact (List.getElem?_eq_some_iff.1 hd).1
    let π : Pos → Pos := fun p => match p with
      | .cell b' o => if b' = b ∧ o = i * k + c then .root nm else .cell b' o
      | p => p
    let g' : Gh := ⟨fun j => if j = nm then blkV (cs.getD (i * k + c) undef) else g.β j, fun j => if j = nm then capV (cs.getD (i * k + c) undef) else g.κ j, fun b' => (g.up b').map π, g.S⟩
    have ev : Ev (fun p => p ≠ .root id ∧ p ≠ .root nm) π (pOut [nm]) (pOut [nm, id]) g g' w w := by
      refine ⟨⟨fun b' hb' => ⟨hb', rfl⟩, fun b' p hp _ => ⟨by show (g.up b').map π = _; rw [hp]; rfl, rfl⟩, fun b' p o hp ho => ⟨by simp, ?_⟩⟩, fun j hj => ?_, fun j hj => ?_⟩
      · show (if b' = b ∧ o = i * k + c then _ else _) = _
        rw [if_neg]
        rintro ⟨rfl, -⟩
        rw [q1] at hp; injection hp with hp
        exact ho.1 hp.symm
      · have := pOut_spec hj nm (by simp)
        exact ⟨by show (if _ then _ else _) = _; rw [if_neg this], by show (if _ then _ else _) = _; rw [if_neg this]⟩
      · have h1 := pOut_spec hj nm (by simp)
        have h2 := pOut_spec hj id (by simp)
        exact ⟨by simp [pOut, h1], ⟨fun q => by injection q with q; exact h2 q, fun q => by injection q with q; exact h1 q⟩, rfl⟩
    have hR := h.ev ev (Below.refl _ _) (fun b _ _ => rfl) (fun b _ hs => .inl hs) h.new (fun b' p hp => by
      obtain ⟨p', hp', -⟩ := Option.map_eq_some_iff.1 (show (g.up b').map π = some p from hp)
      exact h.own b' p' hp')
    have hnm : g'.β nm = blkV (cs.getD (i * k + c) undef) ∧ g'.κ nm = capV (cs.getD (i * k + c) undef) := ⟨if_pos rfl, if_pos rfl⟩
    have hid : g'.β id = some b ∧ g'.κ id = g.κ id := ⟨(if_neg (fun q => hne q.symm)).trans hβ, if_neg (fun q => hne q.symm)⟩
    have hmv := Rep.move ev.toMv (q7 i c row d hi hd) (fun z hz => by injection hz with hz; subst hz; simp)
    have e1 : π (.cell b (i * k + c)) = .root nm := if_pos ⟨rfl, rfl⟩
    rw [Option.map_some, e1] at hmv
    refine ⟨g', (hR.setB (id := id) (o := .hol e k rows i c (refC nm d)) ⟨b, cs, hid.1, ?_, q2, by rw [hid.2]; exact q3, by rw [hid.2]; exact q4, by rw [hid.2]; exact q5, q6, (List.getElem?_eq_some_iff.1 hi).1, hck, (hmv.ref hnm.1 hnm.2).any _, fun i' j row' d' r1 r2 r3 => ?_⟩ (fun hp => by rw [hid.1, hid.2]; have := h.par id _ hb hp; rw [hβ] at this; exact this)).setB (id := nm) (hmv.ro hu hnm.1 (fun _ _ _ _ => hnm.2)) (fun hp => by rw [hnP] at hp; cases hp)⟩
    · show (g.up b).map π = _
      rw [q1]; rfl
    · have hjk : j < k := by rw [← q6 i' row' r1]; exact (List.getElem?_eq_some_iff.1 r2).1
      have := Rep.move ev.toMv (q7 i' j row' d' r1 r2) (fun z hz => by injection hz with hz; subst hz; simp)
      have e2 : π (.cell b (i' * k + j)) = .cell b (i' * k + j) := if_neg (fun q => ij_ne hjk hck r3 q.2)
      rwa [Option.map_some, e2] at this
/-- and closed again. -/
theorem Rel.closeE {x : Cx} {g : Gh} {σ : St} {a : Act} {w : World} (h : Rel x g σ a w) {id e k : Nat} {rows : List (List D)} {i c : Nat} {r d : D} {ob : Prop} {nm : Nat} (hb : σ.b id = some (.hol e k rows i c r)) (hf : fdC σ r = some (ob, d)) (ho : ob) (hr : idC r = some nm) (hne : nm ≠ id) :
    ∃ g', Rel x g' ((σ.sc (pOut [nm]) (pOut [nm])).setB id (.arr e k (rows.set i ((rows.getD i []).set c d)))) a w := by
  obtain ⟨b, cs, h1, h2, h3, h4, h5, h6, h7, h8, h9, h10, h11⟩ := h.ob id _ hb
  let π : Pos → Pos := fun p => match p with
    | .root m => if m = nm then .cell b (i * k + c) else .root m
    | p => p
  have ev : Ev (fun _ => True) π (pOut [nm]) (pOut [nm]) g ⟨g.β, g.κ, fun c => (g.up c).map π, g.S⟩ w w := by
    refine ⟨⟨fun c hc => ⟨hc, rfl⟩, fun c p hc _ => ⟨by show (g.up c).map π = _; rw [hc]; rfl, rfl⟩, fun c p o _ _ => ⟨trivial, rfl⟩⟩, fun m _ => ⟨rfl, rfl⟩, fun m hm => ⟨hm, trivial, ?_⟩⟩
    exact if_neg (pOut_spec hm nm (by simp))
  have hR := h.ev ev (Below.refl _ _) (fun b _ _ => rfl) (fun b _ hs => .inl hs) h.new (fun c p hc => by
    obtain ⟨p', hp', -⟩ := Option.map_eq_some_iff.1 (show (g.up c).map π = some p from hc)
    exact h.own c p' hp')
  have hg : rows[i]? = some rows[i] := List.getElem?_eq_getElem h8
  have hrl := h7 i _ hg
  refine ⟨_, hR.setB (id := id) ?_ (h.par id _ hb)⟩
  show Rep _ _ _ _ _ _
  rw [h1, Option.map_some]
  have key := Rep.osl (S := g.S) (up := fun c => (g.up c).map π) (w := w) (p := .root id) (e := e) (k := k) (rows := rows.set i ((rows.getD i []).set c d)) (b := b) (c := g.κ id) cs (by
    show (g.up b).map π = _
    rw [h2]
    exact congrArg some (if_neg (fun q => hne q.symm))) h3 (by simpa using h4) h5 h6 (fun i' row hi' => ?_) (fun i' j row y hi' hj => ?_)
  · exact key
  · rw [List.getElem?_set] at hi'
    split at hi'
    · rename_i e'; subst e'
      injection hi' with hi'
      subst hi'
      rw [List.length_set, getD_of hg, hrl]
    · exact h7 i' row hi'
  · have keep : ∀ row0, rows[i']? = some row0 → row0[j]? = some y → ¬ (i' = i ∧ j = c) → Rep g.S (fun c => (g.up c).map π) w (some (.cell b (i' * k + j))) y (cs.getD (i' * k + j) undef) := fun row0 r1 r2 r3 => Rep.move ev.toMv (h11 i' j row0 y r1 r2 r3) (fun _ _ => trivial)
    rw [List.getElem?_set] at hi'
    split at hi'
    · rename_i e'; subst e'
      injection hi' with hi'
      subst hi'
      rw [getD_of hg, List.getElem?_set] at hj
      split at hj
      · rename_i e'; subst e'
        have hcl : c < rows[i].length := by rw [hrl]; exact h9
        first
          | rw [if_pos hcl] at hj
          | skip
        injection hj with hj
        subst hj
        rcases fdC_ok h hf ho h10 with ⟨q1, -⟩ | ⟨m, q1, q2⟩
        · rw [hr] at q1; cases q1
        · rw [hr] at q1; injection q1 with q1; subst q1
          have := Rep.move ev.toMv q2 (fun _ _ => trivial)
          have e2 : π (.root nm) = .cell b (i * k + c) := if_pos rfl
          rwa [Option.map_some, e2] at this
      · rename_i hc
        exact keep _ hg hj (fun q => hc q.2.symm)
    · rename_i hne'
      exact keep row hi' hj (fun q => hne' q.1.symm)
end Go.Proofs.Ythkgncddilkmbaa
