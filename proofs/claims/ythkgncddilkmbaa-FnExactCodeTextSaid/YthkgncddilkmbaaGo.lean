import Derived.Test.YthkgncddilkmbaaGn
/- The second engine, fifteenth part: arguments, quiet calls. -/
namespace Go.Proofs.Ythkgncddilkmbaa
set_option linter.unusedVariables false
set_option linter.unusedSimpArgs false
open Go.RowKit
/-- what is lent. -/
def fdB (σ : St) : D → Option (Prop × D)
  | .bx id off => match σ.b id with
    | some (.box row) => match fdL σ row with
      | some (ob, ds) => some (off = 0 ∧ ob, .opt ds)
      | none => none
    | _ => none
  | c => fdC σ c
def idB (σ : St) : D → List Nat
  | .bx id _ => match σ.b id with
    | some (.box row) => id :: idsC row
    | _ => []
  | .bs id _ _ => [id]
  | _ => []
theorem Rel.lendCell {x : Cx} {g : Gh} {σ : St} {a : Act} {w : World} (h : Rel x g σ a w) {gs : List Gv} {bs : List Nat} {c d : D} {ob : Prop} {u : Value} (hf : fdB σ c = some (ob, d)) (ho : ob) (hu : RC g w none c u) (hb : ∀ i ∈ idB σ c, i ∈ bs) (p : Option Pos) :
    Rep (calG g gs bs).S (calG g gs bs).up w p (frz d) u := by
  have lend : ∀ {c d : D} {ob : Prop} {u : Value} {p0 : Option Pos}, fdC σ c = some (ob, d) → ob → RC g w p0 c u → (∀ i, idC c = some i → i ∈ bs) → (∀ q, p0 = some q → PU g.up (fun i => i ∈ bs) q) → Rep (calG g gs bs).S (calG g gs bs).up w none (frz d) u := by
    intro c d ob u p0 hf ho hu hi hp
    rcases fdC_ok h hf ho hu with ⟨q1, q2⟩ | ⟨i, q1, q2⟩
    · exact q2.froz (S' := (calG g gs bs).S) (up' := (calG g gs bs).up) (R := fun i => i ∈ bs) (fun b => .inl) (fun b => .inr) hp
    · exact q2.froz (S' := (calG g gs bs).S) (up' := (calG g gs bs).up) (R := fun i => i ∈ bs) (fun b => .inl) (fun b => .inr) (fun q hq => by injection hq with hq; subst hq; exact hi i q1)
  refine Rep.any ?_ p
  by_cases hx : ∃ id off, c = .bx id off
  · obtain ⟨id, off, rfl⟩ := hx
    simp only [fdB] at hf
    split at hf
    · rename_i row hrow
      split at hf
      · rename_i ob' ds hfd
        injection hf with hf; injection hf with e1 e2
        subst e1 e2
        obtain ⟨rfl, ho⟩ := ho
        simp only [idB, hrow] at hb
        obtain ⟨b, hβ, rfl⟩ := hu
        obtain ⟨b', cs, ty, c1, c2, c3, c4, c5⟩ := h.ob id _ hrow
        rw [c1] at hβ; injection hβ with hβ; subst hβ
        obtain ⟨l1, l2⟩ := fdL_at _ _ _ hfd ho
        have hund : Und g.up (fun i => i ∈ bs) b' := .root c2 (hb id (by simp))
        have hcell : ∀ (j : Nat) (d : D), (frzL ds)[j]? = some d → ∃ c0 d0 o1, row[j]? = some c0 ∧ fdC σ c0 = some (o1, d0) ∧ o1 ∧ d = frz d0 := by
          intro j d hj
          rw [frzL_map, List.getElem?_map] at hj
          obtain ⟨d0, q2, q3⟩ := Option.map_eq_some_iff.1 hj
          have hlt : j < row.length := by rw [← l1]; exact (List.getElem?_eq_some_iff.1 q2).1
          obtain ⟨o1, f1, f2⟩ := l2 j _ d0 (List.getElem?_eq_getElem hlt) q2
          exact ⟨_, d0, o1, List.getElem?_eq_getElem hlt, f1, f2, q3.symm⟩
        simp only [frz]
        refine Rep.pt (fun j => cs.getD j undef) (fun j d hj => ⟨.inr hund, ?_⟩) (fun j d hj => ?_)
        · obtain ⟨c0, d0, o1, q1, -⟩ := hcell j d hj
          have hlt : j < cs.size := by rw [c4]; exact (List.getElem?_eq_some_iff.1 q1).1
          simp only [World.cell?, c3, Nat.zero_add]
          rw [if_neg (by simp)]
          exact agetD_of hlt
        · obtain ⟨c0, d0, o1, q1, q2, q3, rfl⟩ := hcell j d hj
          exact lend q2 q3 (c5 j c0 q1) (fun i hi => hb i (List.mem_cons_of_mem _ (idsC_mem q1 hi))) (fun q hq => by injection hq with hq; subst hq; exact hund)
      · cases hf
    · cases hf
  · have hf' : fdC σ c = some (ob, d) := by
      cases c <;> first | exact hf | exact absurd ⟨_, _, rfl⟩ hx
    refine lend hf' ho hu (fun i hi => ?_) (fun q hq => by cases hq)
    cases c <;> first | (cases hi; done) | exact absurd ⟨_, _, rfl⟩ hx | (injection hi with hi; subst hi; exact hb _ (by simp [idB]))
def argC (σ : St) (m : Nat) (c : D) : Option (Prop × D) := if m = 1 then fdC σ c else match fdB σ c with
  | some (ob, d) => some (ob, frz d)
  | none => none
def argL (σ : St) (m : Nat) : List D → Option (Prop × List D)
  | [] => some (True, [])
  | c :: l => match argC σ m c, argL σ m l with
    | some (o1, d), some (o2, ds) => some (o1 ∧ o2, d :: ds)
    | _, _ => none
def argD (σ : St) (m : Nat) : D → Option (Prop × D)
  | .ag xs => match argL σ m xs with
    | some (ob, ds) => some (ob, .ag ds)
    | none => none
  | .un => none
  | .tup _ => none
  | .mb _ _ => none
  | c => argC σ m c
def gvL (j : Nat) : Nat → List D → List Gv
  | _, [] => []
  | l, c :: r => match idC c with
    | some i => (i, j, l) :: gvL j (l + 1) r
    | none => gvL j (l + 1) r
def bsL (σ : St) : List D → List Nat
  | [] => []
  | c :: r => idB σ c ++ bsL σ r
def cellsD : D → List D
  | .ag xs => xs
  | c => [c]
/-- the arguments, what is given, what is lent. -/
def aArgs (σ : St) (md : List Nat) : Nat → List Operand → Option (Prop × List D × List Gv × List Nat)
  | _, [] => some (True, [], [], [])
  | j, z :: l => match argD σ (md.getD j 0) (bodyT (ev σ z)), aArgs σ md (j + 1) l with
    | some (o1, d), some (o2, ds, gs, bs) => some (oblT (ev σ z) ∧ o1 ∧ o2, d :: ds, (if md.getD j 0 = 1 then gvL j 0 (cellsD (bodyT (ev σ z))) else []) ++ gs, (if md.getD j 0 = 1 then [] else bsL σ (cellsD (bodyT (ev σ z)))) ++ bs)
    | _, _ => none
theorem gvL_mem (j : Nat) : ∀ (l : List D) (q i j' l' : Nat), (i, j', l') ∈ gvL j q l → j' = j ∧ ∃ n c, l' = q + n ∧ l[n]? = some c ∧ idC c = some i
  | [], q, i, j', l', h => by cases h
  | c :: l, q, i, j', l', h => by
    unfold gvL at h
    have tl : (i, j', l') ∈ gvL j (q + 1) l → j' = j ∧ ∃ n c', l' = q + n ∧ (c :: l)[n]? = some c' ∧ idC c' = some i := fun h => by
      obtain ⟨h1, n, c', h2, h3, h4⟩ := gvL_mem j l (q + 1) i j' l' h
      exact ⟨h1, n + 1, c', by omega, by simpa using h3, h4⟩
    split at h
    · rename_i i' hc
      rcases List.mem_cons.1 h with e | h
      · injection e with e1 e2; injection e2 with e2 e3
        subst e1 e2 e3
        exact ⟨rfl, 0, c, rfl, rfl, hc⟩
      · exact tl h
    · exact tl h
theorem gvL_of (j : Nat) : ∀ (l : List D) (q n : Nat) (c : D) (i : Nat), l[n]? = some c → idC c = some i → (i, j, q + n) ∈ gvL j q l
  | [], q, n, c, i, h, _ => by simp at h
  | d :: l, q, 0, c, i, h, hc => by simp at h; subst h; unfold gvL; rw [hc]; simp
  | d :: l, q, n + 1, c, i, h, hc => by
    have := gvL_of j l (q + 1) n c i (by simpa using h) hc
    rw [show q + 1 + n = q + (n + 1) by omega] at this
    unfold gvL
    cases idC d with
    | none => exact this
    | some _ => exact List.mem_cons_of_mem _ this
theorem bsL_mem {σ : St} {l : List D} {n : Nat} {c : D} {i : Nat} (h : l[n]? = some c) (hi : i ∈ idB σ c) : i ∈ bsL σ l := by
  induction l generalizing n with
  | nil => simp at h
  | cons d l ih =>
    cases n with
    | zero => simp at h; subst h; simp [bsL, hi]
    | succ n => simp [bsL, ih (n := n) (by simpa using h)]
theorem argL_at {σ : St} {m : Nat} : ∀ (l : List D) (ob : Prop) (ds : List D), argL σ m l = some (ob, ds) → ob → ds.length = l.length ∧ ∀ (j : Nat) (c d : D), l[j]? = some c → ds[j]? = some d → ∃ o1, argC σ m c = some (o1, d) ∧ o1
  | [], ob, ds, h, ho => by injection h with h; injection h with e1 e2; subst e2; exact ⟨rfl, fun j c d q => by simp at q⟩
  | c :: l, ob, ds, h, ho => by
    unfold argL at h
    split at h
    · rename_i o1 d o2 ds' h1 h2
      injection h with h; injection h with e1 e2
      subst e1 e2
      obtain ⟨i1, i2⟩ := argL_at l o2 ds' h2 ho.2
      refine ⟨by simp [i1], fun j c' d' q1 q2 => ?_⟩
      cases j with
      | zero => simp at q1 q2; subst q1 q2; exact ⟨o1, h1, ho.1⟩
      | succ j => exact i2 j c' d' (by simpa using q1) (by simpa using q2)
    · cases h
section
variable {x : Cx} {g : Gh} {σ : St} {a : Act} {w : World}
/-- a given cell lies at the beginning of what it belongs to. -/
theorem fdC_gv {c d : D} {ob : Prop} {i : Nat} {u : Value} (hf : fdC σ c = some (ob, d)) (ho : ob) (hi : idC c = some i) (hu : RC g w none c u) : (∃ o, σ.b i = some o) ∧ ((∃ k n, RC g w none (.bs i k n) u) ∨ RC g w none (.bx i 0) u) := by
  cases c with
  | bs id k n =>
    injection hi with hi; subst hi
    simp only [fdC] at hf
    split at hf
    · rename_i e k' rows hb; exact ⟨⟨_, hb⟩, .inl ⟨k, n, hu⟩⟩
    · cases hf
  | bx id off =>
    injection hi with hi; subst hi
    simp only [fdC] at hf
    split at hf
    · rename_i row hb
      injection hf with hf; injection hf with e1 e2
      subst e1
      obtain ⟨rfl, -⟩ := ho
      exact ⟨⟨_, hb⟩, .inr hu⟩
    · cases hf
  | _ => cases hi
theorem argD_ok (h : Rel x g σ a w) {gs : List Gv} {bs : List Nat} (hnd : nodB (gvN gs) = true) {m j : Nat} {y d : D} {ob : Prop} {v : Value} (hf : argD σ m y = some (ob, d)) (ho : ob) (hv : RE g w y v)
    (hg : m = 1 → ∀ p ∈ gvL j 0 (cellsD y), p ∈ gs) (hb : m ≠ 1 → ∀ i ∈ bsL σ (cellsD y), i ∈ bs) : RA (calG g gs bs) w j d v ∧ (m = 1 → ∀ i l, (i, j, l) ∈ gvL j 0 (cellsD y) → (∃ o, σ.b i = some o) ∧ ((∃ k n, RC g w none (.bs i k n) (cellV v l)) ∨ RC g w none (.bx i 0) (cellV v l))) := by
  have cell : ∀ {c d : D} {ob : Prop} {l : Nat} {u : Value}, argC σ m c = some (ob, d) → ob → RC g w none c u → (cellsD y)[l]? = some c → Rep (calG g gs bs).S (calG g gs bs).up w (some (.par j l)) d u := by
    intro c d ob l u hf ho hu hc
    unfold argC at hf
    split at hf
    · rename_i hm
      obtain ⟨q1, q2, -⟩ := h.calCell (gs := gs) (bs := bs) hf ho hu
      cases hi : idC c with
      | none => exact q1 hi _
      | some i =>
        have := gvL_of j _ 0 l c i hc hi
        rw [Nat.zero_add] at this
        exact q2 i j l hi (hg hm _ this) hnd
    · rename_i hm
      split at hf
      · rename_i ob' d' hf'
        injection hf with hf; injection hf with e1 e2
        subst e1 e2
        exact h.lendCell hf' ho hu (fun i hi => hb hm i (bsL_mem hc hi)) _
      · cases hf
  have gv : ∀ {c d : D} {ob : Prop} {i : Nat} {u : Value}, m = 1 → argC σ m c = some (ob, d) → ob → idC c = some i → RC g w none c u → (∃ o, σ.b i = some o) ∧ ((∃ k n, RC g w none (.bs i k n) u) ∨ RC g w none (.bx i 0) u) := by
    intro c d ob i u hm hf ho hi hu
    unfold argC at hf
    rw [if_pos hm] at hf
    exact fdC_gv hf ho hi hu
  have one : ∀ c, y = c → cellsD y = [c] → argC σ m c = some (ob, d) → RC g w none c v → v.oneCell' = true → Rep (calG g gs bs).S (calG g gs bs).up w (some (.par j 0)) d v ∧ (m = 1 → ∀ i l, (i, j, l) ∈ gvL j 0 (cellsD y) → (∃ o, σ.b i = some o) ∧ ((∃ k n, RC g w none (.bs i k n) (cellV v l)) ∨ RC g w none (.bx i 0) (cellV v l))) := by
    intro c hy hc hf hu h1
    refine ⟨cell hf ho hu (by rw [hc]; rfl), fun hm i l hq => ?_⟩
    obtain ⟨-, n, c', rfl, q2, q3⟩ := gvL_mem j _ 0 i j l hq
    rw [hc] at q2
    have : n = 0 := by
      cases n with
      | zero => rfl
      | succ n => simp at q2
    subst this
    injection q2 with q2; subst q2
    rw [cellV_one h1]
    exact gv hm hf ho q3 hu
  cases y with
  | ag xs =>
    simp only [argD] at hf
    split at hf
    · rename_i ob' ds hl
      injection hf with hf; injection hf with e1 e2
      subst e1 e2
      obtain ⟨us, rfl, u1, u2⟩ := hv
      obtain ⟨l1, l2⟩ := argL_at _ _ _ hl ho
      refine ⟨⟨us, rfl, by rw [u1, l1], fun l d' u hd hu => ?_⟩, fun hm i l hq => ?_⟩
      · have hlt : l < xs.length := by rw [← l1]; exact (List.getElem?_eq_some_iff.1 hd).1
        have hc : xs[l]? = some xs[l] := List.getElem?_eq_getElem hlt
        obtain ⟨o1, f1, f2⟩ := l2 l _ d' hc hd
        exact cell f1 f2 (u2 l _ u hc hu) hc
      · obtain ⟨-, n, c', rfl, q2, q3⟩ := gvL_mem j _ 0 i j l hq
        rw [Nat.zero_add]
        have q2 : xs[n]? = some c' := q2
        have hlt : n < us.length := by rw [u1]; exact (List.getElem?_eq_some_iff.1 q2).1
        have hu : us[n]? = some us[n] := List.getElem?_eq_getElem hlt
        have hd : ds[n]? = some (ds[n]'(by omega)) := List.getElem?_eq_getElem (by omega)
        obtain ⟨o1, f1, f2⟩ := l2 n c' _ q2 hd
        have : cellV (.agg us.toArray) n = us[n] := lgetD hu
        rw [this]
        exact gv hm f1 f2 q3 (u2 n c' _ q2 hu)
    · cases hf
  | un => cases hf
  | tup _ => cases hf
  | mb _ _ => cases hf
  | _ =>
    simp only [argD] at hf
    simp only [RE] at hv
    obtain ⟨q1, q2⟩ := one _ rfl rfl hf hv hv.one
    refine ⟨?_, q2⟩
    cases d <;> first | exact q1 | cases q1
theorem aArgs_ok (h : Rel x g σ a w) {md : List Nat} {gs : List Gv} {bs : List Nat} (hnd : nodB (gvN gs) = true) : ∀ (l : List Operand) (j : Nat) (ob : Prop) (ds : List D) (gs' : List Gv) (bs' : List Nat), aArgs σ md j l = some (ob, ds, gs', bs') → ob → (∀ p ∈ gs', p ∈ gs) → (∀ i ∈ bs', i ∈ bs) →
    ds.length = l.length ∧ (∀ (q : Nat) (d : D) (u : Value), ds[q]? = some d → (l.map a.eval)[q]? = some u → RA (calG g gs bs) w (j + q) d u) ∧
      ∀ i j' l', (i, j', l') ∈ gs' → j ≤ j' ∧ (∃ o, σ.b i = some o) ∧ ∃ u, (l.map a.eval)[j' - j]? = some u ∧ ((∃ k n, RC g w none (.bs i k n) (cellV u l')) ∨ RC g w none (.bx i 0) (cellV u l'))
  | [], j, ob, ds, gs', bs', hf, ho, hg, hb => by
    injection hf with hf; injection hf with e1 e2; injection e2 with e2 e3; injection e3 with e3 e4
    subst e2 e3 e4
    exact ⟨rfl, fun q d u hq => by simp at hq, fun i j' l' hq => by cases hq⟩
  | z :: l, j, ob, ds, gs', bs', hf, ho, hg, hb => by
    unfold aArgs at hf
    split at hf
    · rename_i o1 d o2 ds' gs2 bs2 h1 h2
      injection hf with hf; injection hf with e1 e2; injection e2 with e2 e3; injection e3 with e3 e4
      subst e1 e2 e3 e4
      obtain ⟨p1, p2, p3⟩ := ho
      have hv := body_ok (ev_ok h z) p1
      obtain ⟨a1, a2⟩ := argD_ok h (gs := gs) (bs := bs) hnd (j := j) h1 p2 hv (fun hm p hp => hg p (by rw [if_pos hm]; exact List.mem_append_left _ hp)) (fun hm i hi => hb i (by rw [if_neg hm]; exact List.mem_append_left _ hi))
      obtain ⟨i1, i2, i3⟩ := aArgs_ok h hnd l (j + 1) o2 ds' gs2 bs2 h2 p3 (fun p hp => hg p (List.mem_append_right _ hp)) (fun i hi => hb i (List.mem_append_right _ hi))
      refine ⟨by simp [i1], fun q d' u hd hu => ?_, fun i j' l' hq => ?_⟩
      · cases q with
        | zero => simp at hd hu; subst hd hu; exact a1
        | succ q =>
          have := i2 q d' u (by simpa using hd) (by simpa using hu)
          rw [show j + 1 + q = j + (q + 1) by omega] at this; exact this
      · rcases List.mem_append.1 hq with hq | hq
        · split at hq
          · rename_i hm
            have hj := (gvL_mem j _ 0 i j' l' hq).1
            subst hj
            obtain ⟨q1, q2⟩ := a2 hm i l' hq
            exact ⟨Nat.le_refl _, q1, _, by simp, q2⟩
          · cases hq
        · obtain ⟨q1, q2, u, q3, q4⟩ := i3 i j' l' hq
          refine ⟨by omega, q2, u, ?_, q4⟩
          rw [show j' - j = j' - (j + 1) + 1 by omega]
          simpa using q3
    · cases hf
/-! ### quiet calls -/
def frA : D → D
  | .tup xs => .tup (xs.map fun y => match y with
    | .ag ys => .ag (frzL ys)
    | y => frz y)
  | .ag xs => .ag (frzL xs)
  | y => frz y
theorem Rel.callQ (hr : Rel x g σ a w) {bs : List Nat} {w' : World} {g' : Gh} {r : D} {v : Value}
    (b1 : Below 0 w w') (b2 : ∀ b, b < w.heap.size → (calG g [] bs).up b = none → w'.heap[b]? = w.heap[b]?) (b3 : ∀ b, (calG g [] bs).S b → g'.S b) (b4 : ∀ b, b < w.heap.size → g'.S b → (calG g [] bs).S b ∨ (calG g [] bs).up b ≠ none) (b5 : ∀ b, g'.S b → b < w'.heap.size)
    (b6 : ∀ b p, g'.up b = some p → b < w'.heap.size ∧ (b < w.heap.size → (calG g [] bs).up b ≠ none) ∧ ¬ g'.S b) (b7 : RNs g' w' r v) (hpu : bs = [] ∨ Pure r) : ∃ ga, Rel x ga σ a w' ∧ RT ga w' (frA r) v := by
  have hno : ∀ b, (calG g [] bs).up b = none := fun b => Classical.byContradiction fun e => by
    obtain ⟨i, hi⟩ := (calG_out.1 e).some
    cases hi
  let Rb : Nat → Prop := fun i => i ∈ bs
  let π : Pos → Pos := fun p => match p with
    | .cell b o => .cell b o
    | _ => .root 0
  let gm : Gh := ⟨fun _ => none, fun _ => 0, fun b => (g'.up b).map π, fun b => g'.S b ∧ ¬ Und g.up Rb b⟩
  let ga : Gh := ⟨g.β, g.κ, g.up, fun b => (g'.S b ∧ ¬ Und g.up Rb b) ∨ g'.up b ≠ none⟩
  have hnew : ∀ b, g'.up b ≠ none → b < w'.heap.size ∧ w.heap.size ≤ b := fun b q => by
    cases hq : g'.up b with
    | none => exact absurd hq q
    | some p =>
      obtain ⟨o1, o2, -⟩ := b6 b p hq
      refine ⟨o1, ?_⟩
      rcases Nat.lt_or_ge b w.heap.size with r | r
      · exact absurd (hno b) (o2 r)
      · exact r
  have ev : Ev (fun _ => True) (fun p => p) pAll pAll g ga w w' := by
    refine ⟨⟨fun b hb => ⟨.inl ⟨b3 b (.inl hb), fun q => (hr.und q).2.2 hb⟩, b2 b (hr.new b hb) (hno b)⟩, fun b p hb _ => ⟨hb, b2 b (hr.own b p hb).1 (hno b)⟩, fun b p o _ _ => ⟨trivial, rfl⟩⟩, fun i _ => ⟨rfl, rfl⟩, fun i _ => ⟨rfl, trivial, rfl⟩⟩
  have hR := hr.ev ev b1 (fun b hb _ => b2 b (by have := hr.bel.size; omega) (hno b)) (fun b hb hs => by
    have := hr.bel.size
    rcases hs with ⟨q1, q2⟩ | q
    · rcases b4 b (by omega) q1 with (r | r) | r
      · exact .inl r
      · exact absurd r q2
      · exact absurd (hno b) r
    · have := (hnew b q).2; omega) (fun b hs => hs.elim (fun q => b5 b q.1) (fun q => (hnew b q).1)) (fun b p hp => by
    obtain ⟨o1, o2, o3⟩ := hr.own b p hp
    refine ⟨by have := b1.size; omega, o2, fun hs => ?_⟩
    rcases hs with ⟨q1, q2⟩ | q
    · rcases b4 b o1 q1 with (r | r) | r
      · exact o3 r
      · exact q2 r
      · exact absurd (hno b) r
    · have := (hnew b q).2; omega)
  rw [sc_all] at hR
  have key : ∀ (p : Pos) (c : D) (u : Value), (∀ b o, p ≠ .cell b o) → Rep g'.S g'.up w' (some p) c u → (bs = [] ∨ Pure c) → Rep ga.S ga.up w' none (frz c) u := by
    intro p c u hp h hq
    have h1 : Rep gm.S gm.up w' ((some p).map π) c u := Rep.pmove (fun b p hb => ⟨by show (g'.up b).map π = _; rw [hb]; rfl, rfl⟩) (fun b o => rfl) h (hq.imp (fun q b hs => ⟨⟨hs, fun e => by obtain ⟨i, hi⟩ := e.some; simp only [Rb, q] at hi; cases hi⟩, rfl⟩) id)
    refine h1.froz (S' := ga.S) (up' := ga.up) (R := fun _ => True) (fun b hs => .inl hs) (fun b hu => .inr fun e => ?_) (fun q hq => ?_)
    · have : gm.up b = none := by show (g'.up b).map π = none; rw [e]; rfl
      cases hu with
      | root h' _ => rw [this] at h'; cases h'
      | cell h' _ => rw [this] at h'; cases h'
    · rw [Option.map_some] at hq
      injection hq with hq; subst hq
      cases p with
      | cell b o => exact absurd rfl (hp b o)
      | _ => trivial
  refine ⟨ga, hR, ?_⟩
  have cellE : ∀ (m : Nat) (y : D) (u : Value), RN g' w' m y u → (bs = [] ∨ Pure y) → RE ga w' (match y with | .ag ys => .ag (frzL ys) | y => frz y) u := by
    intro m y u hN hp
    cases y with
    | un => trivial
    | ag xs =>
      obtain ⟨us, rfl, n1, n2⟩ := hN
      refine ⟨us, rfl, by rw [frzL_len]; exact n1, fun l c z hc hz => ?_⟩
      rw [frzL_map, List.getElem?_map] at hc
      obtain ⟨c0, q1, rfl⟩ := Option.map_eq_some_iff.1 hc
      exact (key _ _ _ (fun _ _ => by simp) (n2 l c0 z q1 hz) (hp.imp id fun p => p.cell q1)).rc
    | tup _ => simp only [RN] at hN; cases hN
    | mb _ _ => simp only [RN] at hN; cases hN
    | bx _ _ => simp only [RN] at hN; cases hN
    | el _ _ _ _ => simp only [RN] at hN; cases hN
    | bs _ _ _ => simp only [RN] at hN; cases hN
    | _ => simp only [RN] at hN; exact (key _ _ _ (fun _ _ => by simp) hN hp).rc.re
  cases r with
  | tup xs =>
    obtain ⟨us, rfl, n1, n2⟩ := b7
    refine ⟨us, rfl, by simp [n1], fun m y u hy hu => ?_⟩
    rw [List.getElem?_map] at hy
    obtain ⟨y0, q1, rfl⟩ := Option.map_eq_some_iff.1 hy
    exact cellE m y0 u (n2 m y0 u q1 hu) (hpu.imp id fun p => p.comp q1)
  | un => trivial
  | ag xs => exact (cellE 0 (.ag xs) v b7 hpu).rt
  | mb _ _ => simp only [RNs, RN] at b7; cases b7
  | bx _ _ => simp only [RNs, RN] at b7; cases b7
  | el _ _ _ _ => simp only [RNs, RN] at b7; cases b7
  | bs _ _ _ => simp only [RNs, RN] at b7; cases b7
  | _ => simp only [RNs] at b7; exact (cellE 0 _ v b7 hpu).rt
end
end Go.Proofs.Ythkgncddilkmbaa
