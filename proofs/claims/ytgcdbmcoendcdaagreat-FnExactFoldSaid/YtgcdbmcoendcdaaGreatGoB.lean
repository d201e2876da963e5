import Derived.Test.YtgcdbmcoendcdaaGreatGkB
/- The second engine, fifteenth part: arguments, quiet calls. -/
namespace Go.Proofs.YtgcdbmcoendcdaaGreat
set_option linter.unusedVariables false
set_option linter.unusedSimpArgs false
open Go.RowKit
def fdB (σ : St) : D → Option (Prop × D)
  | .bx id off => match σ.b id with
    | some (.box row) => match fdL σ row with
      | some (ob, ds) => some (off = 0 ∧ ob, .opt ds)
      | none => none
    | _ => none
  | c => fdC σ c
def idB (σ : St) : D → List Nat
  | .bx id _ => match σ.b id with
    | some (.box row) => id :: idsC row
    | _ => []
  | .bs id _ _ => [id]
  | _ => []
theorem Rel.lendCell {x : Cx} {g : Gh} {σ : St} {a : Act} {w : World} (h : Rel x g σ a w) {gs : List Gv} {bs : List Nat} {c d : D} {ob : Prop} {u : Value} (hf : fdB σ c = some (ob, d)) (ho : ob) (hu : RC g w none c u) (hb : ∀ i ∈ idB σ c, i ∈ bs) (p : Option Pos) :
    Rep (calG g gs bs).S (calG g gs bs).up w p (frz d) u := by
  have lend : ∀ {c d : D} {ob : Prop} {u : Value} {p0 : Option Pos}, fdC σ c = some (ob, d) → ob → RC g w p0 c u → (∀ i, idC c = some i → i ∈ bs) → (∀ q, p0 = some q → PU g.up (fun i => i ∈ bs) q) → Rep (calG g gs bs).S (calG g gs bs).up w none (frz d) u := by
    intro c d ob u p0 hf ho hu hi hp
    rcases fdC_ok h hf ho hu with ⟨q1, q2⟩ | ⟨i, q1, q2⟩
    · exact q2.froz (S' := (calG g gs bs).S) (up' := (calG g gs bs).up) (R := fun i => i ∈ bs) (fun b => .inl) (fun b => .inr) hp
    · exact q2.froz (S' := (calG g gs bs).S) (up' := (calG g gs bs).up) (R := fun i => i ∈ bs) (fun b => .inl) (fun b => .inr) (fun q hq => by injection hq with hq; subst hq; exact hi i q1)
  refine Rep.any ?_ p
  by_cases hx : ∃ id off, c = .bx id off
  · obtain ⟨id, off, rfl⟩ := hx
    simp only [fdB] at hf
    split at hf
    · rename_i row hrow
      split at hf
      · rename_i ob' ds hfd
        injection hf with hf; injection hf with e1 e2
        subst e1 e2
        obtain ⟨rfl, ho⟩ := ho
        simp only [idB, hrow] at hb
        obtain ⟨b, hβ, rfl⟩ := hu
        obtain ⟨b', cs, ty, c1, c2, c3, c4, c5⟩ := h.ob id _ hrow
        rw [c1] at hβ; injection hβ with hβ; subst hβ
        obtain ⟨l1, l2⟩ := fdL_at _ _ _ hfd ho
        have hund : Und g.up (fun i => i ∈ bs) b' := .root c2 (hb id (by simp))
        have hcell : ∀ (j : Nat) (d : D), (frzL ds)[j]? = some d → ∃ c0 d0 o1, row[j]? = some c0 ∧ fdC σ c0 = some (o1, d0) ∧ o1 ∧ d = frz d0 := by
          intro j d hj
          rw [frzL_map, List.getElem?_map] at hj
          obtain ⟨d0, q2, q3⟩ := Option.map_eq_some_iff.1 hj
          have hlt : j < row.length := by rw [← l1]; exact (List.getElem?_eq_some_iff.1 q2).1
          obtain ⟨o1, f1, f2⟩ := l2 j _ d0 (List.getElem?_eq_getElem hlt) q2
          exact ⟨_, d0, o1, List.getElem?_eq_getElem hlt, f1, f2, q3.symm⟩
        simp only [frz]
        refine Rep.pt (fun j => cs.getD j undef) (fun j d hj => ⟨.inr hund, ?_⟩) (fun j d hj => ?_)
        · obtain ⟨c0, d0, o1, q1, -⟩ := hcell j d hj
          have hlt : j < cs.size := by rw [c4]; exact (List.getElem?_eq_some_iff.1 q1).1
          simp only [World.cell?, c3, Nat.zero_add]
          rw [if_neg (by simp)]
          exact agetD_of hlt
        · obtain ⟨c0, d0, o1, q1, q2, q3, rfl⟩ := hcell j d hj
          exact lend q2 q3 (c5 j c0 q1) (fun i hi => hb i (List.mem_cons_of_mem _ (idsC_mem q1 hi))) (fun q hq => by injection hq with hq; subst hq; exact hund)
      · cases hf
    · cases hf
  · have hf' : fdC σ c = some (ob, d) := by
      cases c <;> first | exact hf | exact absurd ⟨_, _, rfl⟩ hx
    refine lend hf' ho hu (fun i hi => ?_) (fun q hq => by cases hq)
    cases c <;> first | (cases hi; done) | exact absurd ⟨_, _, rfl⟩ hx | (injection hi with hi; subst hi; exact hb _ (by simp [idB]))
def argC (σ : St) (m : Nat) (c : D) : Option (Prop × D) := if m = 1 then fdC σ c else match fdB σ c with
  | some (ob, d) => some (ob, frz d)
  | none => none
def argL (σ : St) (m : Nat) : List D → Option (Prop × List D)
  | [] => some (True, [])
  | c :: l => match argC σ m c, argL σ m l with
    | some (o1, d), some (o2, ds) => some (o1 ∧ o2, d :: ds)
    | _, _ => none
def argD (σ : St) (m : Nat) : D → Option (Prop × D)
  | .ag xs => match argL σ m xs with
    | some (ob, ds) => some (ob, .ag ds)
    | none => none
  | .un => none
  | .tup _ => none
  | .mb _ _ => none
  | c => argC σ m c
def gvL (j : Nat) : Nat → List D → List Gv
  | _, [] => []
  | l, c :: r => match idC c with
    | some i => (i, j, l) :: gvL j (l + 1) r
    | none => gvL j (l + 1) r
def bsL (σ : St) : List D → List Nat
  | [] => []
  | c :: r => idB σ c ++ bsL σ r
def cellsD : D → List D
  | .ag xs => xs
  | c => [c]
def aArgs (σ : St) (md : List Nat) : Nat → List Operand → Option (Prop × List D × List Gv × List Nat)
  | _, [] => some (True, [], [], [])
  | j, z :: l => match argD σ (md.getD j 0) (bodyT (ev σ z)), aArgs σ md (j + 1) l with
    | some (o1, d), some (o2, ds, gs, bs) => some (oblT (ev σ z) ∧ o1 ∧ o2, d :: ds, (if md.getD j 0 = 1 then gvL j 0 (cellsD (bodyT (ev σ z))) else []) ++ gs, (if md.getD j 0 = 1 then [] else bsL σ (cellsD (bodyT (ev σ z)))) ++ bs)
    | _, _ => none
theorem gvL_mem (j : Nat) : ∀ (l : List D) (q i j' l' : Nat), (i, j', l') ∈ gvL j q l → j' = j ∧ ∃ n c, l' = q + n ∧ l[n]? = some c ∧ idC c = some i
  | [], q, i, j', l', h => by cases h
  | c :: l, q, i, j', l', h => by
    unfold gvL at h
    have tl : (i, j', l') ∈ gvL j (q + 1) l → j' = j ∧ ∃ n c', l' = q + n ∧ (c :: l)[n]? = some c' ∧ idC c' = some i := fun h => by
      obtain ⟨h1, n, c', h2, h3, h4⟩ := gvL_mem j l (q + 1) i j' l' h
      exact ⟨h1, n + 1, c', by omega, by simpa using h3, h4⟩
    split at h
    · rename_i i' hc
      rcases List.mem_cons.1 h with e | h
      · injection e with e1 e2; injection e2 with e2 e3
        subst e1 e2 e3
        exact ⟨rfl, 0, c, rfl, rfl, hc⟩
      · exact tl h
    · exact tl h
theorem gvL_of (j : Nat) : ∀ (l : List D) (q n : Nat) (c : D) (i : Nat), l[n]? = some c → idC c = some i → (i, j, q + n) ∈ gvL j q l
  | [], q, n, c, i, h, _ => by simp at h
  | d :: l, q, 0, c, i, h, hc => by simp at h; subst h; unfold gvL; rw [hc]; simp
  | d :: l, q, n + 1, c, i, h, hc => by
    have := gvL_of j l (q + 1) n c i (by simpa using h) hc
    rw [show q + 1 + n = q + (n + 1) by omega] at this
    unfold gvL
    cases idC d with
    | none => exact this
    | some _ => exact List.mem_cons_of_mem _ this
theorem bsL_mem {σ : St} {l : List D} {n : Nat} {c : D} {i : Nat} (h : l[n]? = some c) (hi : i ∈ idB σ c) : i ∈ bsL σ l := by
  induction l generalizing n with
  | nil => simp at h
  | cons d l ih =>
    cases n with
    | zero => simp at h; subst h; simp [bsL, hi]
    | succ n => simp [bsL, ih (n := n) (by simpa using h)]
theorem argL_at {σ : St} {m : Nat} : ∀ (l : List D) (ob : Prop) (ds : List D), argL σ m l = some (ob, ds) → ob → ds.length = l.length ∧ ∀ (j : Nat) (c d : D), l[j]? = some c → ds[j]? = some d → ∃ o1, argC σ m c = some (o1, d) ∧ o1
  | [], ob, ds, h, ho => by injection h with h; injection h with e1 e2; subst e2; exact ⟨rfl, fun j c d q => by simp at q⟩
  | c :: l, ob, ds, h, ho => by
    unfold argL at h
    split at h
    · rename_i o1 d o2 ds' h1 h2
      injection h with h; injection h with e1 e2
      subst e1 e2
      obtain ⟨i1, i2⟩ := argL_at l o2 ds' h2 ho.2
      refine ⟨by simp [i1], fun j c' d' q1 q2 => ?_⟩
      cases j with
      | zero => simp at q1 q2; subst q1 q2; exact ⟨o1, h1, ho.1⟩
      | succ j => exact i2 j c' d' (by simpa using q1) (by simpa using q2)
    · cases h
section
variable {x : Cx} {g : Gh} {σ : St} {a : Act} {w : World}
theorem fdC_gv {c d : D} {ob : Prop} {i : Nat} {u : Value} (hf : fdC σ c = some (ob, d)) (ho : ob) (hi : idC c = some i) (hu : RC g w none c u) : (∃ o, σ.b i = some o) ∧ ((∃ k n, RC g w none (.bs i k n) u) ∨ RC g w none (.bx i 0) u) := by
  cases c with
  | bs id k n =>
    injection hi with hi; subst hi
    simp only [fdC] at hf
    split at hf
    · rename_i e k' rows hb; exact ⟨⟨_, hb⟩, .inl ⟨k, n, hu⟩⟩
    · cases hf
  | bx id off =>
    injection hi with hi; subst hi
    simp only [fdC] at hf
    split at hf
    · rename_i row hb
      injection hf with hf; injection hf with e1 e2
      subst e1
      obtain ⟨rfl, -⟩ := ho
      exact ⟨⟨_, hb⟩, .inr hu⟩
    · cases hf
  | _ => cases hi
theorem argD_ok (h : Rel x g σ a w) {gs : List Gv} {bs : List Nat} (hnd : nodB (gvN gs) = true) {m j : Nat} {y d : D} {ob : Prop} {v : Value} (hf : argD σ m y = some (ob, d)) (ho : ob) (hv : RE g w y v)
    (hg : m = 1 → ∀ p ∈ gvL j 0 (cellsD y), p ∈ gs) (hb : m ≠ 1 → ∀ i ∈ bsL σ (cellsD y), i ∈ bs) : RA (calG g gs bs) w j d v ∧ (m = 1 → ∀ i l, (i, j, l) ∈ gvL j 0 (cellsD y) → (∃ o, σ.b i = some o) ∧ ((∃ k n, RC g w none (.bs i k n) (cellV v l)) ∨ RC g w none (.bx i 0) (cellV v l))) := by
  have cell : ∀ {c d : D} {ob : Prop} {l : Nat} {u : Value}, argC σ m c = some (ob, d) → ob → RC g w none c u → (cellsD y)[l]? = some c → Rep (calG g gs bs).S (calG g gs bs).up w (some (.par j l)) d u := by
    intro c d ob l u hf ho hu hc
    unfold argC at hf
    split at hf
    · rename_i hm
      obtain ⟨q1, q2, -⟩ := h.calCell (gs := gs) (bs := bs) hf ho hu
      cases hi : idC c with
      | none => exact q1 hi _
      | some i =>
        have := gvL_of j _ 0 l c i hc hi
        rw [Nat.zero_add] at this
        exact q2 i j l hi (hg hm _ this) hnd
    · rename_i hm
      split at hf
      · rename_i ob' d' hf'
        injection hf with hf; injection hf with e1 e2
        subst e1 e2
        exact h.lendCell hf' ho hu (fun i hi => hb hm i (bsL_mem hc hi)) _
      · cases hf
  have gv : ∀ {c d : D} {ob : Prop} {i : Nat} {u : Value}, m = 1 → argC σ m c = some (ob, d) → ob → idC c = some i → RC g w none c u → (∃ o, σ.b i = some o) ∧ ((∃ k n, RC g w none (.bs i k n) u) ∨ RC g w none (.bx i 0) u) := by
    intro c d ob i u hm hf ho hi hu
    unfold argC at hf
    rw [if_pos hm] at hf
    exact fdC_gv hf ho hi hu
  have one : ∀ c, y = c → cellsD y = [c] → argC σ m c = some (ob, d) → RC g w none c v → v.oneCell' = true → Rep (calG g gs bs).S (calG g gs bs).up w (some (.par j 0)) d v ∧ (m = 1 → ∀ i l, (i, j, l) ∈ gvL j 0 (cellsD y) → (∃ o, σ.b i = some o) ∧ ((∃ k n, RC g w none (.bs i k n) (cellV v l)) ∨ RC g w none (.bx i 0) (cellV v l))) := by
    intro c hy hc hf hu h1
    refine ⟨cell hf ho hu (by rw [hc]; rfl), fun hm i l hq => ?_⟩
    obtain ⟨-, n, c', rfl, q2, q3⟩ := gvL_mem j _ 0 i j l hq
    rw [hc] at q2
    have : n = 0 := by
      cases n with
      | zero => rfl
      | succ n => simp at q2
    subst this
    injection q2 with q2; subst q2
    rw [cellV_one h1]
    exact gv hm hf ho q3 hu
  cases y with
  | ag xs =>
    simp only [argD] at hf
    split at hf
    · rename_i ob' ds hl
      injection hf with hf; injection hf with e1 e2
      subst e1 e2
      obtain ⟨us, rfl, u1, u2⟩ := hv
      obtain ⟨l1, l2⟩ := argL_at _ _ _ hl ho
      refine ⟨⟨us, rfl, by rw [u1, l1], fun l d' u hd hu => ?_⟩, fun hm i l hq => ?_⟩
      · have hlt : l < xs.length := by rw [← l1]; exact (List.getElem?_eq_some_iff.1 hd).1
        have hc : xs[l]? = some xs[l] := List.getElem?_eq_getElem hlt
        obtain ⟨o1, f1, f2⟩ := l2 l _ d' hc hd
        exact cell f1 f2 (u2 l _ u hc hu) hc
      · obtain ⟨-, n, c', rfl, q2, q3⟩ := gvL_mem j _ 0 i j l hq
        rw [Nat.zero_add]
        have q2 : xs[n]? = some c' := q2
        have hlt : n < us.length := by rw [u1]; exact (List.getElem?_eq_some_iff.1 q2).1
        have hu : us[n]? = some us[n] := List.getElem?_eq_getElem hlt
        have hd : ds[n]? = some (ds[n]'(by omega)) := List.getElem?_eq_getElem (by omega)
        obtain ⟨o1, f1, f2⟩ := l2 n c' _ q2 hd
        have : cellV (.agg us.toArray) n = us[n] := lgetD hu
        rw [this]
        exact gv hm f1 f2 q3 (u2 n c' _ q2 hu)
    · cases hf
  | un => cases hf
  | tup _ => cases hf
  | mb _ _ => cases hf
  | _ =>
    simp only [argD] at hf
    simp only [RE] at hv
    obtain ⟨q1, q2⟩ := one _ rfl rfl hf hv hv.one
    refine ⟨?_, q2⟩
    cases d <;> first | exact q1 | cases q1
theorem aArgs_ok (h : Rel x g σ a w) {md : List Nat} {gs : List Gv} {bs : List Nat} (hnd : nodB (gvN gs) = true) : ∀ (l : List Operand) (j : Nat) (ob : Prop) (ds : List D) (gs' : List Gv) (bs' : List Nat), aArgs σ md j l = some (ob, ds, gs', bs') → ob → (∀ p ∈ gs', p ∈ gs) → (∀ i ∈ bs', i ∈ bs) →
    ds.length = l.length ∧ (∀ (q : Nat) (d : D) (u : Value), ds[q]? = some d → (l.map a.eval)[q]? = some u → RA (calG g gs bs) w (j + q) d u) ∧
      ∀ i j' l', (i, j', l') ∈ gs' → j ≤ j' ∧ (∃ o, σ.b i = some o) ∧ ∃ u, (l.map a.eval)[j' - j]? = some u ∧ ((∃ k n, RC g w none (.bs i k n) (cellV u l')) ∨ RC g w none (.bx i 0) (cellV u l'))
  | [], j, ob, ds, gs', bs', hf, ho, hg, hb => by
    injection hf with hf; injection hf with e1 e2; injection e2 with e2 e3; injection e3 with e3 e4
    subst e2 e3 e4
    exact ⟨rfl, fun q d u hq => by simp at hq, fun i j' l' hq => by cases hq⟩
  | z :: l, j, ob, ds, gs', bs', hf, ho, hg, hb => by
    unfold aArgs at hf
    split at hf
    · rename_i o1 d o2 ds' gs2 bs2 h1 h2
      injection hf with hf; injection hf with e1 e2; injection e2 with e2 e3; injection e3 with e3 e4
      subst e1 e2 e3 e4
      obtain ⟨p1, p2, p3⟩ := ho
      have hv := body_ok (ev_ok h z) p1
      obtain ⟨a1, a2⟩ := argD_ok h (gs := gs) (bs := bs) hnd (j := j) h1 p2 hv (fun hm p hp => hg p (by rw [if_pos hm]; exact List.mem_append_left _ hp)) (fun hm i hi => hb i (by rw [if_neg hm]; exact List.mem_append_left _ hi))
      obtain ⟨i1, i2, i3⟩ := aArgs_ok h hnd l (j + 1) o2 ds' gs2 bs2 h2 p3 (fun p hp => hg p (List.mem_append_right _ hp)) (fun i hi => hb i (List.mem_append_right _ hi))
      refine ⟨by simp [i1], fun q d' u hd hu => ?_, fun i j' l' hq => ?_⟩
      · cases q with
        | zero => simp at hd hu; subst hd hu; exact a1
        | succ q =>
          have := i2 q d' u (by simpa using hd) (by simpa using hu)
          rw [show j + 1 + q = j + (q + 1) by omega] at this; exact this
      · rcases List.mem_append.1 hq with hq | hq
        · split at hq
          · rename_i hm
            have hj := (gvL_mem j _ 0 i j' l' hq).1
            subst hj
            obtain ⟨q1, q2⟩ := a2 hm i l' hq
            exact ⟨Nat.le_refl _, q1, _, by simp, q2⟩
          · cases hq
        · obtain ⟨q1, q2, u, q3, q4⟩ := i3 i j' l' hq
          refine ⟨by omega, q2, u, ?_, q4⟩
          rw [show j' - j = j' - (j + 1) + 1 by omega]
          simpa using q3
    · cases hf
/-! ### quiet calls -/
def frA : D → D
  | .tup xs => .tup (xs.map fun y => match y with
    | .ag ys => .ag (frzL ys)
    | y => frz y)
  | .ag xs => .ag (frzL xs)
  | y => frz y
theorem Rel.callQ (hr : Rel x g σ a w) {bs : List Nat} {w' : World} {g' : Gh} {r : D} {v : Value}
    (b1 : Below 0 w w') (b2 : ∀ b, b < w.heap.size → (calG g [] bs).up b = none → w'.heap[b]? = w.heap[b]?) (b3 : ∀ b, (calG g [] bs).S b → g'.S b) (b4 : ∀ b, b < w.heap.size → g'.S b → (calG g [] bs).S b ∨ (calG g [] bs).up b ≠ none) (b5 : ∀ b, g'.S b → b < w'.heap.size)
    (b6 : ∀ b p, g'.up b = some p → b < w'.heap.size ∧ (b < w.heap.size → (calG g [] bs).up b ≠ none) ∧ ¬ g'.S b) (b7 : RNs g' w' r v) (hpu : bs = [] ∨ Pure r) : ∃ ga, Rel x ga σ a w' ∧ RT ga w' (frA r) v := by
  have hno : ∀ b, (calG g [] bs).up b = none := fun b => Classical.byContradiction fun e => by
    obtain ⟨i, hi⟩ := (calG_out.1 e).some
    cases hi
  let Rb : Nat → Prop := fun i => i ∈ bs
  let π : Pos → Pos := fun p => match p with
    | .cell b o => .cell b o
    | _ => .root 0
  let gm : Gh := ⟨fun _ => none, fun _ => 0, fun b => (g'.up b).map π, fun b => g'.S b ∧ ¬ Und g.up Rb b⟩
  let ga : Gh := ⟨g.β, g.κ, g.up, fun b => (g'.S b ∧ ¬ Und g.up Rb b) ∨ g'.up b ≠ none⟩
  have hnew : ∀ b, g'.up b ≠ none → b < w'.heap.size ∧ w.heap.size ≤ b := fun b q => by
    cases hq : g'.up b with
    | none => exact absurd hq q
    | some p =>
      obtain ⟨o1, o2, -⟩ := b6 b p hq
      refine ⟨o1, ?_⟩
      rcases Nat.lt_or_ge b w.heap.size with r | r
      · exact absurd (hno b) (o2 r)
      · exact r
  have ev : Ev (fun _ => True) (fun p => p) pAll pAll g ga w w' := by
    refine ⟨⟨fun b hb => ⟨.inl ⟨b3 b (.inl hb), fun q => (hr.und q).2.2 hb⟩, b2 b (hr.new b hb) (hno b)⟩, fun b p hb _ => ⟨hb, b2 b (hr.own b p hb).1 (hno b)⟩, fun b p o _ _ => ⟨trivial, rfl⟩⟩, fun i _ => ⟨rfl, rfl⟩, fun i _ => ⟨rfl, trivial, rfl⟩⟩
  have hR := hr.ev ev b1 (fun b hb _ => b2 b (by have := hr.bel.size; omega) (hno b)) (fun b hb hs => by
    have := hr.bel.size
    rcases hs with ⟨q1, q2⟩ | q
    · rcases b4 b (by omega) q1 with (r | r) | r
      · exact .inl r
      · exact absurd r q2
      · exact absurd (hno b) r
    · have := (hnew b q).2; omega) (fun b hs => hs.elim (fun q => b5 b q.1) (fun q => (hnew b q).1)) (fun b p hp => by
    obtain ⟨o1, o2, o3⟩ := hr.own b p hp
    refine ⟨by have := b1.size; omega, o2, fun hs => ?_⟩
    rcases hs with ⟨q1, q2⟩ | q
    · rcases b4 b o1 q1 with (r | r) | r
      · exact o3 r
      · exact q2 r
      · exact absurd (hno b) r
    · have := (hnew b q).2; omega)
  rw [sc_all] at hR
  have key : ∀ (p : Pos) (c : D) (u : Value), (∀ b o, p ≠ .cell b o) → Rep g'.S g'.up w' (some p) c u → (bs = [] ∨ Pure c) → Rep ga.S ga.up w' none (frz c) u := by
    intro p c u hp h hq
    have h1 : Rep gm.S gm.up w' ((some p).map π) c u := Rep.pmove (fun b p hb => ⟨by show (g'.up b).map π = _; rw [hb]; rfl, rfl⟩) (fun b o => rfl) h (hq.imp (fun q b hs => ⟨⟨hs, fun e => by obtain ⟨i, hi⟩ := e.some; simp only [Rb, q] at hi; cases hi⟩, rfl⟩) id)
    refine h1.froz (S' := ga.S) (up' := ga.up) (R := fun _ => True) (fun b hs => .inl hs) (fun b hu => .inr fun e => ?_) (fun q hq => ?_)
    · have : gm.up b = none := by show (g'.up b).map π = none; rw [e]; rfl
      cases hu with
      | root h' _ => rw [this] at h'; cases h'
      | cell h' _ => rw [this] at h'; cases h'
    · rw [Option.map_some] at hq
      injection hq with hq; subst hq
      cases p with
      | cell b o => exact absurd rfl (hp b o)
      | _ => trivial
  refine ⟨ga, hR, ?_⟩
  have cellE : ∀ (m : Nat) (y : D) (u : Value), RN g' w' m y u → (bs = [] ∨ Pure y) → RE ga w' (match y with | .ag ys => .ag (frzL ys) | y => frz y) u := by
    intro m y u hN hp
    cases y with
    | un => trivial
    | ag xs =>
      obtain ⟨us, rfl, n1, n2⟩ := hN
      refine ⟨us, rfl, by rw [frzL_len]; exact n1, fun l c z hc hz => ?_⟩
      rw [frzL_map, List.getElem?_map] at hc
      obtain ⟨c0, q1, rfl⟩ := Option.map_eq_some_iff.1 hc
      exact (key _ _ _ (fun _ _ => by simp) (n2 l c0 z q1 hz) (hp.imp id fun p => p.cell q1)).rc
    | tup _ => simp only [RN] at hN; cases hN
    | mb _ _ => simp only [RN] at hN; cases hN
    | bx _ _ => simp only [RN] at hN; cases hN
    | el _ _ _ _ => simp only [RN] at hN; cases hN
    | bs _ _ _ => simp only [RN] at hN; cases hN
    | _ => simp only [RN] at hN; exact (key _ _ _ (fun _ _ => by simp) hN hp).rc.re
  cases r with
  | tup xs =>
    obtain ⟨us, rfl, n1, n2⟩ := b7
    refine ⟨us, rfl, by simp [n1], fun m y u hy hu => ?_⟩
    rw [List.getElem?_map] at hy
    obtain ⟨y0, q1, rfl⟩ := Option.map_eq_some_iff.1 hy
    exact cellE m y0 u (n2 m y0 u q1 hu) (hpu.imp id fun p => p.comp q1)
  | un => trivial
  | ag xs => exact (cellE 0 (.ag xs) v b7 hpu).rt
  | mb _ _ => simp only [RNs, RN] at b7; cases b7
  | bx _ _ => simp only [RNs, RN] at b7; cases b7
  | el _ _ _ _ => simp only [RNs, RN] at b7; cases b7
  | bs _ _ _ => simp only [RNs, RN] at b7; cases b7
  | _ => simp only [RNs] at b7; exact (cellE 0 _ v b7 hpu).rt
end
end Go.Proofs.YtgcdbmcoendcdaaGreat

namespace Go.Proofs.YtgcdbmcoendcdaaGreat
set_option linter.unusedVariables false
set_option linter.unusedSimpArgs false
open Go.RowKit
structure Md where
  P : Program
  md : FuncId → List Nat
  mix : P.follows .mixedOrders = true
  lit : Bool := false
  lr : Nat → Bool := fun _ => false
def Md.at (M : Md) (id : Nat) : Md := ⟨M.P, M.md, M.mix, M.lr id, M.lr⟩
theorem Md.at_P (M : Md) (id : Nat) : (M.at id).P = M.P := rfl
theorem Md.at_md (M : Md) (id : Nat) : (M.at id).md = M.md := rfl
theorem Md.at_lit (M : Md) (id : Nat) : (M.at id).lit = M.lr id := rfl
def litB : List Nat → Nat → Bool
  | [], _ => false
  | x :: l, i => (x == i) || litB l i
theorem litB_nil (i : Nat) : litB [] i = false := rfl
theorem litB_cons (x : Nat) (l : List Nat) (i : Nat) : litB (x :: l) i = ((x == i) || litB l i) := rfl
section
variable {x : Cx} {g : Gh} {σ : St} {a : Act} {w : World}
def prepC (σ : St) (m : Nat) (c : D) : Option (Prop × St) := match idC c with
  | none => some (True, σ)
  | some id => match σ.b id with
    | some (.box _) => match foldB σ id with
      | some (ob, ds, σ') => some (ob, if m = 2 then σ'.fr id (.box ds) else σ')
      | none => none
    | some (.arr e k rows) => some (True, if m = 2 then σ.fr id (.arr e k rows) else σ)
    | _ => none
def prepL (m : Nat) : List D → St → Option (Prop × St)
  | [], σ => some (True, σ)
  | c :: l, σ => match prepC σ m c with
    | some (o1, σ1) => match prepL m l σ1 with
      | some (o2, σ2) => some (o1 ∧ o2, σ2)
      | none => none
    | none => none
def prepA (md : List Nat) : Nat → List Operand → St → Option (Prop × St)
  | _, [], σ => some (True, σ)
  | j, z :: l, σ => if md.getD j 0 = 0 then prepA md (j + 1) l σ else match prepL (md.getD j 0) (cellsD (bodyT (ev σ z))) σ with
    | some (o1, σ1) => match prepA md (j + 1) l σ1 with
      | some (o2, σ2) => some (o1 ∧ o2, σ2)
      | none => none
    | none => none
theorem foldB_box {σ σ' : St} {id : Nat} {ob : Prop} {ds : List D} (h : foldB σ id = some (ob, ds, σ')) : σ'.b id = some (.box ds) ∧ ds.all deepB = true := by
  unfold foldB at h
  split at h
  · split at h
    · rename_i hf
      injection h with h; injection h with e1 e2; injection e2 with e2 e3
      subst e2 e3
      exact ⟨by simp [St.setB], fdL_deep hf⟩
    · cases h
  · cases h
theorem prepC_ok {σ' : St} {m : Nat} {c : D} {ob : Prop} (h : Rel x g σ a w) (hf : prepC σ m c = some (ob, σ')) (ho : ob) : ∃ g', Rel x g' σ' a w := by
  unfold prepC at hf
  split at hf
  · injection hf with hf; injection hf with e1 e2; subst e2; exact ⟨g, h⟩
  · rename_i id hid
    split at hf
    · split at hf
      · rename_i ob' ds σ1 h1
        injection hf with hf; injection hf with e1 e2
        subst e1 e2
        obtain ⟨g1, q1⟩ := h.foldB h1 ho
        split
        · obtain ⟨q2, q3⟩ := foldB_box h1
          exact q1.freeze id (.box ds) q2 q3
        · exact ⟨g1, q1⟩
      · cases hf
    · rename_i e k rows hb
      injection hf with hf; injection hf with e1 e2
      subst e2
      split
      · exact h.freeze id _ hb rfl
      · exact ⟨g, h⟩
    · cases hf
theorem prepL_ok {m : Nat} : ∀ (l : List D) {g : Gh} {σ σ' : St} {ob : Prop}, Rel x g σ a w → prepL m l σ = some (ob, σ') → ob → ∃ g', Rel x g' σ' a w
  | [], g, σ, σ', ob, h, hf, ho => by injection hf with hf; injection hf with e1 e2; subst e2; exact ⟨g, h⟩
  | c :: l, g, σ, σ', ob, h, hf, ho => by
    unfold prepL at hf
    split at hf
    · rename_i o1 σ1 h1
      split at hf
      · rename_i o2 σ2 h2
        injection hf with hf; injection hf with e1 e2
        subst e1 e2
        obtain ⟨g1, q1⟩ := prepC_ok h h1 ho.1
        exact prepL_ok l q1 h2 ho.2
      · cases hf
    · cases hf
theorem prepA_ok {md : List Nat} : ∀ (l : List Operand) (j : Nat) {g : Gh} {σ σ' : St} {ob : Prop}, Rel x g σ a w → prepA md j l σ = some (ob, σ') → ob → ∃ g', Rel x g' σ' a w
  | [], j, g, σ, σ', ob, h, hf, ho => by injection hf with hf; injection hf with e1 e2; subst e2; exact ⟨g, h⟩
  | z :: l, j, g, σ, σ', ob, h, hf, ho => by
    unfold prepA at hf
    split at hf
    · exact prepA_ok l (j + 1) h hf ho
    · split at hf
      · rename_i o1 σ1 h1
        split at hf
        · rename_i o2 σ2 h2
          injection hf with hf; injection hf with e1 e2
          subst e1 e2
          obtain ⟨g1, q1⟩ := prepL_ok _ h h1 ho.1
          exact prepA_ok l (j + 1) q1 h2 ho.2
        · cases hf
      · cases hf
def reop : List Gv → St → Option (Prop × St)
  | [], σ => some (True, σ)
  | (i, _, _) :: r, σ => match σ.b i with
    | some (.box row) => match reop r (σ.unfB i row) with
      | some (o, σ') => some ((row.all deepB = true ∧ i < 1000000) ∧ o, σ')
      | none => none
    | _ => reop r σ
theorem reop_ok : ∀ (l : List Gv) {g : Gh} {σ σ' : St} {ob : Prop}, Rel x g σ a w → reop l σ = some (ob, σ') → ob → ∃ g', Rel x g' σ' a w
  | [], g, σ, σ', ob, h, hf, ho => by injection hf with hf; injection hf with e1 e2; subst e2; exact ⟨g, h⟩
  | (i, j, l') :: l, g, σ, σ', ob, h, hf, ho => by
    unfold reop at hf
    split at hf
    · rename_i row hb
      split at hf
      · rename_i o σ1 h1
        injection hf with hf; injection hf with e1 e2
        subst e1 e2
        obtain ⟨g1, q1⟩ := h.unfB hb ho.1.1 ho.1.2
        exact reop_ok l q1 h1 ho.2
      · cases hf
    · exact reop_ok l h hf ho
end
def aCaps (σ : St) : List Operand → Option (Prop × List D)
  | [] => some (True, [])
  | z :: l => match bodyT (ev σ z), aCaps σ l with
    | y, some (ob, ys) => some (oblT (ev σ z) ∧ deepB y = true ∧ ob, y :: ys)
    | _, none => none
def aopF (σ : St) : Op → Option (Prop × D)
  | .makeFunc (.func f) first caps => match first.toList, aCaps σ caps.toList with
    | [], some (ob, ys) => some (ob, .fn f ys)
    | _, _ => none
  | _ => none
theorem RE.deep {g : Gh} {w : World} {y : D} {v : Value} (h : RE g w y v) (hd : deepB y = true) : Rep g.S g.up w none y v := by
  cases y <;> first | exact h | cases hd
theorem aCaps_ok {x : Cx} {σ : St} {g : Gh} {a : Act} {w : World} (hr : Rel x g σ a w) : ∀ (l : List Operand) (ob : Prop) (ys : List D), aCaps σ l = some (ob, ys) → ob → ys.length = l.length ∧ ∀ (j : Nat) (d : D) (u : Value), ys[j]? = some d → (l.map a.eval)[j]? = some u → Rep g.S g.up w none d u
  | [], ob, ys, h, ho => by injection h with h; injection h with e1 e2; subst e2; exact ⟨rfl, fun j d u q => by simp at q⟩
  | z :: l, ob, ys, h, ho => by
    unfold aCaps at h
    split at h
    · rename_i ob' ys' hl
      injection h with h; injection h with e1 e2
      subst e1 e2
      have h1 := (body_ok (ev_ok hr z) ho.1).deep ho.2.1
      obtain ⟨i1, i2⟩ := aCaps_ok hr l ob' ys' hl ho.2.2
      refine ⟨by simp [i1], fun j d u q r => ?_⟩
      cases j with
      | zero => simp at q r; subst q r; exact h1
      | succ j => exact i2 j d u (by simpa using q) (by simpa using r)
    · cases h
theorem aopF_ok {x : Cx} {σ : St} {o : Oper} {ob : Prop} {y : D} (h : aopF σ o.op = some (ob, y)) (ho : ob) {g : Gh} {a : Act} {w : World} (hr : Rel x g σ a w) :
    ∃ r, (execOp a.eval o).run x.P w = .ok (.value r) w ∧ RT g w y r := by
  unfold aopF at h
  split at h
  · rename_i f first caps hop
    split at h
    · rename_i ob' ys h1 h2
      injection h with h; injection h with e1 e2
      subst e1 e2
      have hf : first = #[] := Array.ext' h1
      subst hf
      obtain ⟨c1, c2⟩ := aCaps_ok hr _ _ _ h2 ho
      have hval : (caps.map a.eval) = ((List.range ys.length).map fun j => (caps.toList.map a.eval).getD j undef).toArray := by
        apply Array.ext'
        rw [Array.toList_map]
        apply List.ext_getElem?
        intro j
        rcases Nat.lt_or_ge j ys.length with q | q
        · rw [List.getElem?_map (l := List.range ys.length), List.getElem?_range q, Option.map_some, List.getD_eq_getElem?_getD]
          have hj : j < (caps.toList.map a.eval).length := by rw [List.length_map, ← c1]; exact q
          rw [List.getElem?_eq_getElem hj]; rfl
        · rw [List.getElem?_eq_none (by rw [List.length_map, ← c1]; exact q), List.getElem?_eq_none (by simpa using q)]
      refine ⟨.func (.func f) #[] (caps.map a.eval), ?_, ?_⟩
      · simp only [execOp, hop, Instr.makeFunc, Sem.run_bind, Sem.run_pure, Result.andThen_ok, Array.map_empty]
      · rw [hval]
        refine Rep.rt (Rep.fn _ fun j d hj => ?_)
        have hlt : j < (caps.toList.map a.eval).length := by rw [List.length_map, ← c1]; exact (List.getElem?_eq_some_iff.1 hj).1
        have := c2 j d _ hj (List.getElem?_eq_getElem hlt)
        rw [List.getD_eq_getElem?_getD, List.getElem?_eq_getElem hlt]; exact this
    · cases h
  · cases h
def aopP (P : Program) (σ : St) (op : Op) : Option (Prop × D) := match aop1 P σ op with
  | some r => some r
  | none => aopF σ op
theorem aopP_ok {x : Cx} {σ : St} {o : Oper} {ob : Prop} {y : D} (h : aopP x.P σ o.op = some (ob, y)) (ho : ob) {g : Gh} {a : Act} {w : World} (hr : Rel x g σ a w) :
    ∃ r, (execOp a.eval o).run x.P w = .ok (.value r) w ∧ RT g w y r := by
  unfold aopP at h
  split at h
  · rename_i r h1
    injection h with h
    subst h
    exact aop1_ok h1 ho hr
  · exact aopF_ok h ho hr
def aopB (P : Program) (σ : St) : Op → Option (Prop × D)
  | .buildSlice t len parts => match tk P t with
    | .sl e k _ _ => match aRows σ k 0 parts.toList with
      | some (ob, rows, raw) => some (ob ∧ parts.toList.length = len ∧ len * k ≤ 16777216 ∧ idsC raw = [], .sl k rows)
      | none => none
    | _ => none
  | .build t parts => match aBuild P σ t parts with
    | some (ob, y) => some (ob, y)
    | none => none
  | _ => none
theorem aopB_ok {x : Cx} {σ : St} {o : Oper} {ob : Prop} {y : D} (h : aopB x.P σ o.op = some (ob, y)) (ho : ob) {g : Gh} {a : Act} {w : World} (hr : Rel x g σ a w) :
    ∃ r w' g', (execOp a.eval o).run x.P w = .ok (.value r) w' ∧ Rel x g' σ a w' ∧ RT g' w' y r := by
  unfold aopB at h
  split at h
  · rename_i t len parts hop
    split at h
    · rename_i e k by_ z hk
      split at h
      · rename_i ob' rows raw h'
        injection h with h; injection h with e1 e2
        subst e1 e2
        obtain ⟨o1, o2, o3, o4⟩ := ho
        obtain ⟨vals, r1, r2, r3, r4, r5⟩ := lit_run hr hk hop h' o1 o2 o3
        have hold : ∀ b, b < w.heap.size → (w.alloc (.cells vals.toArray e)).heap[b]? = w.heap[b]? := fun b hb => Below.heap_alloc _ _ _ hb
        let ga : Gh := ⟨g.β, g.κ, g.up, fun b => g.S b ∨ b = w.heap.size⟩
        have ev : Ev (fun _ => True) (fun p => p) pAll pAll g ga w (w.alloc (.cells vals.toArray e)) := ⟨⟨fun b hb => ⟨.inl hb, hold b (hr.new b hb)⟩, fun b p hb _ => ⟨hb, hold b (hr.own b p hb).1⟩, fun b p o _ _ => ⟨trivial, rfl⟩⟩, fun i _ => ⟨rfl, rfl⟩, fun i _ => ⟨rfl, trivial, rfl⟩⟩
        have hR := hr.ev ev ((Below.refl _ _).alloc (Nat.zero_le _) _) (fun b hb _ => hold b (by have := hr.bel.size; omega)) (fun b hb hs => hs.elim .inl (fun q => by have := hr.bel.size; omega)) (fun b hs => by rw [alloc_size]; exact hs.elim (fun q => by have := hr.new b q; omega) (fun q => by omega)) (fun b p hp => by
          obtain ⟨q1, q2, q3⟩ := hr.own b p hp
          exact ⟨by rw [alloc_size]; omega, q2, fun hs => hs.elim q3 (fun q => by omega)⟩)
        rw [sc_all] at hR
        have hcell : ∀ (i j : Nat) (row : List D) (d : D), rows[i]? = some row → row[j]? = some d → ∃ u, vals[i * k + j]? = some u ∧ Rep g.S g.up w none d u := fun i j row d hi hj => by
          obtain ⟨u, c, q1, q2, q3⟩ := r4 i j row d hi hj
          rcases q3 with ⟨-, q3⟩ | ⟨id, q3, -⟩
          · exact ⟨u, q1, q3⟩
          · have := idsC_mem q2 q3
            rw [o4] at this; cases this
        refine ⟨_, _, ga, r5, hR, Rep.rt ?_⟩
        refine Rep.sl (fun i j => vals.getD (i * k + j) undef) (Nat.le_refl _) r1 r3 (fun i j row d hi hj => ⟨.inr rfl, ?_⟩) (fun i j row d hi hj => ?_)
        · obtain ⟨u, q1, -⟩ := hcell i j row d hi hj
          rw [getD_of q1]
          simp only [World.cell?, alloc_at, Nat.zero_add]
          rw [if_neg (by simp)]
          simpa using q1
        · obtain ⟨u, q1, q2⟩ := hcell i j row d hi hj
          rw [getD_of q1]
          exact Rep.move ev.toMv q2 (fun q hq => by cases hq)
      · cases h
    · cases h
  · rename_i t parts hop
    split at h
    · rename_i ob' y' h'
      injection h with h; injection h with e1 e2
      subst e1 e2
      obtain ⟨r, r1, r2⟩ := aBuild_ok hr h' ho
      refine ⟨r, w, g, ?_, hr, r2.rt⟩
      simp only [execOp, hop, Sem.run_bind, r1]; rfl
    · cases h
  · cases h
def gdT (c : Bool) : D → D
  | .mb c' x => .mb (c && c') x
  | .tup _ => .un
  | x => .mb c x
theorem gdT_true {g : Gh} {w : World} {y : D} {v : Value} (h : RT g w y v) : RT g w (gdT true y) v := by
  cases y with
  | mb c x => exact ⟨fun q => h.1 (by simpa using q), fun q => h.2 (by simpa using q)⟩
  | tup xs => trivial
  | _ => simp only [RT] at h; exact ⟨fun _ => h, fun q => (by cases q)⟩
theorem gdT_false (g : Gh) (w : World) (y : D) : RT g w (gdT false y) undef := by
  cases y with
  | mb c x => exact ⟨fun q => (by cases q), fun _ => rfl⟩
  | tup xs => trivial
  | _ => exact ⟨fun q => (by cases q), fun _ => rfl⟩
def gvT (y : D) (want : Bool) : Option Bool := match y with
  | .s (.bool b) => some (b == want)
  | .mb c (.s (.bool b)) => some (c && (b == want))
  | .mb c .un => match c with
    | false => some false
    | true => none
  | _ => none
def dstAt (ops : Array Oper) (j : Nat) : Option Tmp := (ops[j]?).bind (·.dst)
def grd (ops : Array Oper) (σ : St) (j : Nat) (want : Bool) : Option Bool := match dstAt ops j with
  | some t => gvT (σ.t t) want
  | none => none
def chk (N : Nat) (ops : Array Oper) : Bool := ops.toList.all fun o => match o.dst with
  | some d => decide (d < N) && decide (d < 999)
  | none => true
theorem chk_spec {N : Nat} {ops : Array Oper} (h : chk N ops = true) {j : Nat} {o : Oper} (ho : ops[j]? = some o) {d : Tmp} (hd : o.dst = some d) : d < N ∧ d < 999 := by
  have := List.all_eq_true.1 h o (by rw [← Array.getElem?_toList] at ho; exact List.mem_of_getElem? ho)
  rw [hd] at this
  simpa using this
theorem lt_isP {d : Nat} (h : d < 999) : isP d = false := by
  unfold isP
  simp only [Bool.and_eq_false_iff, decide_eq_false_iff_not]; omega
theorem grd_ok {x : Cx} {g : Gh} {σ : St} {a : Act} {w : World} (hr : Rel x g σ a w) {ops : Array Oper} (hc : chk x.N ops = true) {j : Nat} {want c : Bool} (h : grd ops σ j want = some c) :
    (yielded ops a.tmps j == some want) = c := by
  unfold grd at h
  split at h
  · rename_i t ht
    have htN : t < a.tmps.size := by
      rw [hr.sz]
      unfold dstAt at ht
      cases ho : ops[j]? with
      | none => rw [ho] at ht; cases ht
      | some o => rw [ho] at ht; exact (chk_spec hc ho ht).1
    have hy : yielded ops a.tmps j = match a.tmps.getD t undef with | .bool b => some b | _ => none := by
      unfold yielded
      unfold dstAt at ht
      rw [ht]
      simp only [Option.bind_some, Array.getElem?_eq_getElem htN]
      rw [show a.tmps.getD t undef = a.tmps[t] by rw [Array.getD_eq_getD_getElem?, Array.getElem?_eq_getElem htN]; rfl]
      split <;> rename_i q
      · injection q with q; rw [q]
      · split
        · rename_i b q'; rw [q'] at q; exact absurd rfl (q b)
        · rfl
    have h1 := hr.tm t
    unfold gvT at h
    split at h
    · rename_i b hb
      injection h with h
      rw [hb] at h1
      have hv : a.tmps.getD t undef = .bool b := Rep.s_inv (show Rep g.S g.up w none (.s (.bool b)) _ from h1)
      rw [hy, hv, ← h]
      cases b <;> cases want <;> rfl
    · rename_i c' b hb
      injection h with h
      rw [hb] at h1
      cases c' with
      | true =>
        have hv : a.tmps.getD t undef = .bool b := Rep.s_inv (show Rep g.S g.up w none (.s (.bool b)) _ from h1.1 rfl)
        rw [hy, hv, ← h]
        cases b <;> cases want <;> rfl
      | false =>
        have hv : a.tmps.getD t undef = undef := h1.2 rfl
        rw [hy, hv, ← h]
        cases want <;> rfl
    · rename_i c' hb
      rw [hb] at h1
      cases c' with
      | true => cases h
      | false =>
        injection h with h
        have hv : a.tmps.getD t undef = undef := h1.2 rfl
        rw [hy, hv, ← h]
        cases want <;> rfl
    · cases h
  · cases h
/-! ### calls -/
def aFn (σ : St) : Op → Option (Prop × FuncId × List D × List Operand)
  | .call ⟨.value fo, args, _⟩ => match bodyT (ev σ fo) with
    | .fn f caps => some (oblT (ev σ fo), f, caps, args.toList)
    | _ => none
  | _ => none
def CallG (P : Program) (f : FuncId) (ars : List D) (bs : List Nat) (K : D → List D → Prop) : Prop := ∃ Rs, FCon P f ars Rs ∧ ∀ r outs, Rs r outs → (bs = [] ∨ (Pure r ∧ ∀ o ∈ outs, Pure o)) ∧ K r outs
def aft (σ : St) (dst : Option Tmp) (gs : List Gv) (K : St → Prop) (r : D) (outs : List D) : Prop :=
  lenT r = true ∧ match reop gs ((σ.cal (dst.getD 999) gs r outs).put dst (shA (dst.getD 999) r)) with
    | some (ob, σ') => ob ∧ K σ'
    | none => False
def ACall (M : Md) (σ : St) (o : Oper) (K : St → Prop) : Prop := match aFn σ o.op with
  | some (_, f0, _, ops0) => match prepA (M.md f0) 0 ops0 σ with
    | some (o1, σ1) => match aFn σ1 o.op with
      | some (o0, f, caps, ops) => match aArgs σ1 (M.md f0) 0 ops with
        | some (o2, ars, gs, bs) => o0 ∧ o1 ∧ o2 ∧ nodB (gvN gs) = true ∧ nodB (gvK gs) = true ∧ bs.all (pOut (gvN gs)) = true ∧ CallG M.P f (ars ++ caps) bs (aft σ1 o.dst gs K)
        | none => False
      | none => False
    | none => False
  | none => False
def ACallQ (P : Program) (σ : St) (o : Oper) (c : Bool) (wr : D → D) (K : St → Prop) : Prop :=
  ∃ r, (c = true → ∃ d ob f caps ops o2 ars bs r0, o.dst = some d ∧ aFn σ o.op = some (ob, f, caps, ops) ∧ ob ∧ aArgs σ [] 0 ops = some (o2, ars, [], bs) ∧ o2 ∧ FCon P f (ars ++ caps) (fun r _ => r = r0) ∧ (bs = [] ∨ Pure r0) ∧ r = frA r0) ∧ K (σ.put o.dst (wr r))
theorem args_caps {x : Cx} {σ : St} {o : Oper} {ob : Prop} {f : FuncId} {caps : List D} {ops : List Operand} (h : aFn σ o.op = some (ob, f, caps, ops)) (ho : ob) {g : Gh} {a : Act} {w : World} (hr : Rel x g σ a w) :
    ∃ us : List Value, us.length = caps.length ∧ (∀ (j : Nat) (d : D) (u : Value), caps[j]? = some d → us[j]? = some u → Rep g.S g.up w none d u) ∧ (execOp a.eval o).run x.P w = (callFunc f (ops.map a.eval ++ us).toArray).run x.P w := by
  unfold aFn at h
  split at h
  · rename_i fo args ts hop
    split at h
    · rename_i f' caps' hf
      injection h with h; injection h with e1 e2; injection e2 with e2 e3; injection e3 with e3 e4
      subst e1 e2 e3 e4
      have h1 := body_ok (ev_ok hr fo) ho
      rw [hf] at h1
      have h1 : Rep g.S g.up w none (.fn f' caps') (a.eval fo) := h1
      generalize hv : a.eval fo = v at h1
      cases h1 with
      | fn us hus =>
        refine ⟨(List.range caps'.length).map us, by simp, fun j d u hd hu => ?_, ?_⟩
        · rw [List.getElem?_map, List.getElem?_range (List.getElem?_eq_some_iff.1 hd).1] at hu
          injection hu with hu
          subst hu
          exact hus j d hd
        · simp only [execOp, hop, resolve, Sem.run_bind, Deferred.ofValue, hv, Sem.run_pure, Result.andThen_ok, invoke, Array.empty_append]
          congr 2
          apply Array.ext'
          simp
    · cases h
  · cases h
theorem args_all {x : Cx} {g : Gh} {σ : St} {a : Act} {w : World} (h : Rel x g σ a w) {md : List Nat} {ops : List Operand} {o2 : Prop} {ars caps : List D} {gs : List Gv} {bs : List Nat} {us : List Value} (hf : aArgs σ md 0 ops = some (o2, ars, gs, bs)) (ho : o2) (hnd : nodB (gvN gs) = true) (hul : us.length = caps.length) (hus : ∀ (j : Nat) (d : D) (u : Value), caps[j]? = some d → us[j]? = some u → Rep g.S g.up w none d u) :
    (ops.map a.eval ++ us).length = (ars ++ caps).length ∧ (∀ (j : Nat) (d : D) (u : Value), (ars ++ caps)[j]? = some d → (ops.map a.eval ++ us)[j]? = some u → RA (calG g gs bs) w j d u) ∧
      ∀ i j l, (i, j, l) ∈ gs → (∃ o, σ.b i = some o) ∧ ∃ u, (ops.map a.eval ++ us)[j]? = some u ∧ ((∃ k n, RC g w none (.bs i k n) (cellV u l)) ∨ RC g w none (.bx i 0) (cellV u l)) := by
  obtain ⟨a1, a2, a3⟩ := aArgs_ok h (gs := gs) (bs := bs) hnd ops 0 o2 ars gs bs hf ho (fun p hp => hp) (fun i hi => hi)
  refine ⟨by simp [a1, hul], fun j d u hd hu => ?_, fun i j l hi => ?_⟩
  · rcases Nat.lt_or_ge j ars.length with q | q
    · rw [List.getElem?_append_left q] at hd
      rw [List.getElem?_append_left (by rw [List.length_map]; omega)] at hu
      have := a2 j d u hd hu
      rwa [Nat.zero_add] at this
    · rw [List.getElem?_append_right q] at hd
      rw [List.getElem?_append_right (by rw [List.length_map]; omega), List.length_map, ← a1] at hu
      have hr := hus _ d u hd hu
      have m : Mv (fun _ => False) (fun p => p) g (calG g gs bs) w w := ⟨fun b hb => ⟨.inl hb, rfl⟩, fun b p _ q => q.elim, fun b p o _ q => q.elim⟩
      have := (Rep.move m hr (fun q hq => by cases hq)).any (some (.par j 0))
      cases d <;> first | exact this | cases this
  · obtain ⟨-, q1, u, q2, q3⟩ := a3 i j l hi
    rw [Nat.sub_zero] at q2
    refine ⟨q1, u, ?_, q3⟩
    rw [List.getElem?_append_left (List.getElem?_eq_some_iff.1 q2).1]; exact q2
def gvCall (M : Md) (σ : St) (op : Op) : Bool := match aFn σ op with
  | some (_, f, _, _) => match M.md f with
    | 1 :: _ => true
    | _ => false
  | none => false
def astep (M : Md) (ops : Array Oper) (o : Oper) (σ : St) (K : St → Prop) : Prop := match o.guard with
  | none => match aopP M.P σ o.op with
    | some (ob, y) => ob ∧ K (σ.put o.dst y)
    | none => match aop2 M.P σ o.dst o.op with
      | some (ob, y, σ') => ob ∧ K (σ'.put o.dst y)
      | none => match aop3 M.P σ o.dst o.op with
        | some (ob, y, σ') => ob ∧ K (σ'.put o.dst y)
        | none => ACall M σ o K
  | some (j, want) => match grd ops σ j want with
    | none => False
    | some c => if (M.lit && !c) = true then K (σ.put o.dst (gdT false .un)) else match aopP M.P σ o.op with
      | some (ob, y) => (c = true → ob) ∧ K (σ.put o.dst (gdT c y))
      | none => match aopB M.P σ o.op with
        | some (ob, y) => (c = true → ob) ∧ K (σ.put o.dst (gdT c y))
        | none => match gvCall M σ o.op with
          | true => (c = true → ACall M σ o K) ∧ (c = false → K (σ.put o.dst (gdT false .un)))
          | false => ACallQ M.P σ o c (gdT c) K
def aops (M : Md) (ops : Array Oper) (K : St → Prop) : List Oper → St → Prop
  | [], σ => K σ
  | o :: rest, σ => astep M ops o σ (aops M ops K rest)
theorem callQ_ok {x : Cx} {σ : St} {o : Oper} {r : D} (h : ∃ d ob f caps ops o2 ars bs r0, o.dst = some d ∧ aFn σ o.op = some (ob, f, caps, ops) ∧ ob ∧ aArgs σ [] 0 ops = some (o2, ars, [], bs) ∧ o2 ∧ FCon x.P f (ars ++ caps) (fun r _ => r = r0) ∧ (bs = [] ∨ Pure r0) ∧ r = frA r0) {g : Gh} {a : Act} {w : World} (hr : Rel x g σ a w) {K : Act → World → Prop} {Q : Exit → Act → World → Prop}
    (hK : ∀ v g' w', Rel x g' σ a w' → RT g' w' r v → K (a.put o.dst v) w') : o.wp x.P a w K Q := by
  obtain ⟨d, ob, f, caps, ops, o2, ars, bs, r0, hdst, hcal, hob, harg, ho2, hF, hpu, rfl⟩ := h
  obtain ⟨us, u1, u2, u3⟩ := args_caps hcal hob hr
  obtain ⟨c1, c2, -⟩ := args_all hr harg ho2 rfl u1 u2
  unfold Oper.wp
  rw [u3, hF.ent, Oper.upon_enter]
  refine (hF.run w (calG g [] bs) _ (hr.cal1 _ _) (hr.cal2 (fun b _ => by simp [gvN])) c1 c2).mono ?_
  rintro e w' ⟨v, g', r, outs, rfl, b1, b2, b3, b4, b5, b6, rfl, b7, -⟩
  obtain ⟨ga, q1, q2⟩ := hr.callQ b1 b2 b3 b4 b5 b6 b7 hpu
  exact hK v ga w' q1 q2
theorem call_ok {M : Md} {x : Cx} (hx : x.P = M.P) {σ : St} {o : Oper} {K0 : St → Prop} (h : ACall M σ o K0) (hd : ∀ d, o.dst = some d → d < x.N ∧ d < 999) {g : Gh} {a : Act} {w : World} (hr : Rel x g σ a w) {K : Act → World → Prop} {Q : Exit → Act → World → Prop}
    (hK : ∀ σ' g' a' w', Rel x g' σ' a' w' → K0 σ' → K a' w') : o.wp x.P a w K Q := by
  unfold ACall at h
  split at h
  · split at h
    · rename_i o1 σ1 hprep
      split at h
      · rename_i o0 f caps ops hcal
        split at h
        · rename_i o2 ars gs bs harg
          obtain ⟨h0, h1, h2, h3, h4, h5, Rs, hF, hKK⟩ := h
          obtain ⟨g1, hr1⟩ := prepA_ok _ 0 hr hprep h1
          obtain ⟨us, u1, u2, u3⟩ := args_caps hcal h0 hr1
          obtain ⟨c1, c2, c3⟩ := args_all hr1 harg h2 h3 u1 u2
          have hdis : ∀ b ∈ bs, b ∉ gvN gs := fun b hb hm => pOut_spec (List.all_eq_true.1 h5 b hb) b hm rfl
          unfold Oper.wp
          rw [← hx] at hF
          rw [u3, hF.ent, Oper.upon_enter]
          refine (hF.run w (calG g1 gs bs) _ (hr1.cal1 _ _) (hr1.cal2 hdis) c1 c2).mono ?_
          rintro e w' ⟨v, g', r, outs, rfl, b1, b2, b3, b4, b5, b6, b7, b8, b9⟩
          obtain ⟨hpu, hlen, hre⟩ := hKK r outs b7
          have hdd : o.dst.getD 999 < 1000 := by
            cases hdst : o.dst with
            | none => simp
            | some d => exact Nat.lt_of_lt_of_le (hd d hdst).2 (by decide)
          obtain ⟨ga, q1, q2⟩ := hr1.call hdd h3 h4 hdis c3 b1 b2 b3 b4 b5 b6 b8 b9 hpu hlen
          have q3 := q1.put q2 o.dst (fun d q => (hd d q).1)
          split at hre
          · rename_i ob σ' hro
            obtain ⟨gb, q4⟩ := reop_ok gs q3 hro hre.1
            exact hK _ _ _ _ q4 hre.2
          · exact hre.elim
        · exact h.elim
      · exact h.elim
    · exact h.elim
  · exact h.elim
theorem aops_sound {M : Md} {x : Cx} (hx : x.P = M.P) {ops : Array Oper} (hc : chk x.N ops = true) {K : St → Prop} {Q : Exit → Act → World → Prop} (hQ : ∀ σ' g' a' w', Rel x g' σ' a' w' → K σ' → Q .normal a' w') :
    ∀ (l : List Oper), (∀ o ∈ l, ∀ d, o.dst = some d → d < x.N ∧ d < 999) → ∀ (σ : St) (g : Gh) (a : Act) (w : World), Rel x g σ a w → aops M ops K l σ → wpList x.P ops Q l a w
  | [], _, σ, g, a, w, hr, h => hQ σ g a w hr h
  | o :: rest, hl, σ, g, a, w, hr, h => by
    have ih := aops_sound hx hc hQ rest (fun o' ho' => hl o' (List.mem_cons_of_mem _ ho'))
    have hd := hl o (by simp)
    have hdN : ∀ d, o.dst = some d → d < x.N := fun d q => (hd d q).1
    simp only [aops, astep] at h
    unfold wpList
    split at h
    · rename_i hgd
      rw [if_pos (by simp [Region.wanted, hgd])]
      left
      split at h
      · rename_i ob y hop
        rw [← hx] at hop
        obtain ⟨r, r1, r2⟩ := aopP_ok hop h.1 hr
        unfold Oper.wp
        rw [r1, Oper.upon_value]
        exact ih _ _ _ _ (hr.put r2 o.dst hdN) h.2
      · split at h
        · rename_i ob y σ' hop
          rw [← hx] at hop
          obtain ⟨w', g', r0, r1⟩ := aop2_ok hop h.1 (fun d q => lt_isP (hd d q).2) hr
          unfold Oper.wp
          rcases r1 with ⟨r, r1, r2⟩ | ⟨r1, r2⟩
          · rw [r1, Oper.upon_value]
            exact ih _ _ _ _ (r0.put r2 o.dst hdN) h.2
          · rw [r1, Oper.upon_skip]
            exact ih _ _ _ _ (r0.put (y := y) (v := undef) (by rw [r2]; trivial) o.dst hdN) h.2
        · split at h
          · rename_i ob y σ' hop
            rw [← hx] at hop
            obtain ⟨w', g', r0, r, r1, r2⟩ := aop3_ok hop h.1 (fun d q => lt_isP (hd d q).2) hr
            unfold Oper.wp
            rw [r1, Oper.upon_value]
            exact ih _ _ _ _ (r0.put r2 o.dst hdN) h.2
          · exact call_ok hx h hd hr (fun σ' g' a' w' h1 h2 => ih σ' g' a' w' h1 h2)
    · rename_i j want hgd
      split at h
      · exact h.elim
      · rename_i c hcg
        have hw : Region.wanted o (yielded ops a.tmps) = c := by
          simp only [Region.wanted, hgd]
          exact grd_ok hr hc hcg
        split at h
        · rename_i hl
          have hcf : c = false := by
            cases c with
            | true => simp at hl
            | false => rfl
          subst hcf
          rw [if_neg (by rw [hw]; simp)]
          exact ih _ _ _ _ (hr.put (gdT_false g w _) o.dst hdN) h
        · cases c with
          | true =>
            rw [if_pos hw]
            left
            split at h
            · rename_i ob y hop
              rw [← hx] at hop
              obtain ⟨r, r1, r2⟩ := aopP_ok hop (h.1 rfl) hr
              unfold Oper.wp
              rw [r1, Oper.upon_value]
              exact ih _ _ _ _ (hr.put (gdT_true r2) o.dst hdN) h.2
            · split at h
              · rename_i ob y hop
                rw [← hx] at hop
                obtain ⟨r, w', g', r1, r2, r3⟩ := aopB_ok hop (h.1 rfl) hr
                unfold Oper.wp
                rw [r1, Oper.upon_value]
                exact ih _ _ _ _ (r2.put (gdT_true r3) o.dst hdN) h.2
              · split at h
                · exact call_ok hx (h.1 rfl) hd hr (fun σ' g' a' w' h1 h2 => ih σ' g' a' w' h1 h2)
                · obtain ⟨r0, hF, hK⟩ := h
                  rw [← hx] at hF
                  exact callQ_ok (hF rfl) hr (fun v g' w' h1 h2 => ih _ _ _ _ (h1.put (gdT_true h2) o.dst hdN) hK)
          | false =>
            rw [if_neg (by rw [hw]; simp)]
            split at h
            · exact ih _ _ _ _ (hr.put (gdT_false g w _) o.dst hdN) h.2
            · split at h
              · exact ih _ _ _ _ (hr.put (gdT_false g w _) o.dst hdN) h.2
              · split at h
                · exact ih _ _ _ _ (hr.put (gdT_false g w _) o.dst hdN) (h.2 rfl)
                · obtain ⟨r0, -, hK⟩ := h
                  exact ih _ _ _ _ (hr.put (gdT_false g w _) o.dst hdN) hK
end Go.Proofs.YtgcdbmcoendcdaaGreat

namespace Go.Proofs.YtgcdbmcoendcdaaGreat
set_option linter.unusedVariables false
set_option linter.unusedSimpArgs false
open Go.RowKit
section
variable {P : Program} {N : Nat} {ops : Array Oper} {K : St → Prop}
def Yl (P : Program) (N : Nat) (ops : Array Oper) (o : Oper) (σ : St) (y : D) : Prop :=
  ∀ σ' : St, (∀ t ∈ o.looksAt ops, σ'.t t = σ.t t) → σ'.b = σ.b → ∀ (x : Cx) (g : Gh) (a : Act) (w : World), x.P = P → x.N = N → Rel x g σ' a w →
    (Region.wanted o (yielded ops a.tmps) = true ∧ ∀ (K : Act → World → Prop) (Q : Exit → Act → World → Prop), (∀ g' a' w', Rel x g' (σ'.put o.dst y) a' w' → K a' w') → o.wp P a w K Q) ∨
    (Region.wanted o (yielded ops a.tmps) = false ∧ Rel x g (σ'.put o.dst y) (a.put o.dst undef) w)
theorem St.put_comm (σ : St) {d e : Option Tmp} (u v : D) (h : ∀ i, d = some i → e ≠ some i) : (σ.put d u).put e v = (σ.put e v).put d u := by
  cases d with
  | none => rfl
  | some d =>
    cases e with
    | none => rfl
    | some e =>
      have hne : d ≠ e := fun q => h d rfl (q ▸ rfl)
      simp only [St.put]
      congr 1
      funext i
      by_cases h1 : i = e
      · simp [h1, Ne.symm hne]
      · simp [h1]
theorem St.put_other (σ : St) {d : Option Tmp} (u : D) {l : List Tmp} (h : ∀ i, d = some i → i ∉ l) : ∀ t ∈ l, (σ.put d u).t t = σ.t t := by
  intro t ht
  cases d with
  | none => rfl
  | some d =>
    have : t ≠ d := fun q => h d rfl (q ▸ ht)
    simp [St.put, this]
theorem St.put_b (σ : St) (d : Option Tmp) (u : D) : (σ.put d u).b = σ.b := by cases d <;> rfl
theorem Yl.put {o : Oper} {σ : St} {y : D} (h : Yl P N ops o σ y) {d : Option Tmp} (u : D) (hd : ∀ i, d = some i → i ∉ o.looksAt ops) : Yl P N ops o (σ.put d u) y := by
  intro σ' h1 h2
  exact h σ' (fun t ht => (h1 t ht).trans (St.put_other σ u hd t ht)) (h2.trans (St.put_b _ _ _))
theorem Yl.unput {o : Oper} {σ : St} {y : D} {d : Option Tmp} {u : D} (h : Yl P N ops o (σ.put d u) y) (hd : ∀ i, d = some i → i ∉ o.looksAt ops) : Yl P N ops o σ y := by
  intro σ' h1 h2
  exact h σ' (fun t ht => (h1 t ht).trans (St.put_other σ u hd t ht).symm) (h2.trans (St.put_b _ _ _).symm)
end
/-! ### what operations look at -/
theorem ev_congr {σ σ' : St} {z : Operand} (h : ∀ t, z = .tmp t → σ'.t t = σ.t t) : ev σ' z = ev σ z := by
  cases z with
  | tmp t => exact h t rfl
  | const v => rfl
  | global _ => rfl
  | func _ => rfl
theorem looks_op {ops : Array Oper} {o : Oper} {σ σ' : St} (h : ∀ t ∈ o.looksAt ops, σ'.t t = σ.t t) : ∀ z ∈ o.op.operands, ev σ' z = ev σ z := fun z hz =>
  ev_congr fun t ht => h t (by
    subst ht
    exact List.mem_append_left _ (List.mem_filterMap.2 ⟨.tmp t, by simpa using hz, rfl⟩))
theorem aLoad_congr {P : Program} {σ σ' : St} (hb : σ'.b = σ.b) (t : TypeId) (x : D) : aLoad P σ' t x = aLoad P σ t x := by unfold aLoad; rw [hb]
theorem aop1_congr {P : Program} {σ σ' : St} (op : Op) (h : ∀ z ∈ op.operands, ev σ' z = ev σ z) (hb : σ'.b = σ.b) : aop1 P σ' op = aop1 P σ op := by
  cases op <;> simp only [Op.operands] at h <;> simp only [aop1]
  case slice t x lo hi mx =>
    cases mx with
    | some _ => rfl
    | none =>
      have hx := h x (by simp)
      cases lo <;> cases hi <;> simp_all
  case call c =>
    obtain ⟨callee, args, ts⟩ := c
    cases callee with
    | builtin b =>
      cases b <;> try rfl
      simp only [aop1]
      cases ha : args.toList with
      | nil => rfl
      | cons z l =>
        cases l with
        | nil =>
          cases ht : ts.toList with
          | nil => rfl
          | cons t l' =>
            cases l' with
            | nil => dsimp only; rw [h z (by simp [Call.operands, ← Array.mem_toList_iff, ha])]
            | cons _ _ => rfl
        | cons _ _ => rfl
    | value _ => rfl
    | invoke _ _ => rfl
  all_goals (first | rfl | (simp only [aLoad_congr hb]; simp_all; done) | (simp_all; done))
theorem aCaps_congr {σ σ' : St} : ∀ (l : List Operand), (∀ z ∈ l, ev σ' z = ev σ z) → aCaps σ' l = aCaps σ l
  | [], _ => rfl
  | z :: l, h => by
    unfold aCaps
    rw [h z (by simp), aCaps_congr l (fun y hy => h y (by simp [hy]))]
theorem aopP_congr {P : Program} {σ σ' : St} (op : Op) (h : ∀ z ∈ op.operands, ev σ' z = ev σ z) (hb : σ'.b = σ.b) : aopP P σ' op = aopP P σ op := by
  unfold aopP
  rw [aop1_congr op h hb]
  split
  · rfl
  · unfold aopF
    cases op <;> try rfl
    rename_i fn first caps _
    cases fn <;> try rfl
    simp only [Op.operands] at h
    try dsimp only
    rw [aCaps_congr _ (fun z hz => h z (by simp; right; simpa using hz))]
theorem grd_congr {ops : Array Oper} {o : Oper} {σ σ' : St} (h : ∀ t ∈ o.looksAt ops, σ'.t t = σ.t t) {j : Nat} {want : Bool} (hg : o.guard = some (j, want)) : grd ops σ' j want = grd ops σ j want := by
  unfold grd
  cases hd : dstAt ops j with
  | none => rfl
  | some t => dsimp only; rw [h t (by unfold dstAt at hd; simp [Oper.looksAt, hg, hd])]
section
variable {σ σ' : St} (hb : σ'.b = σ.b)
include hb
theorem fdC_b (c : D) : fdC σ' c = fdC σ c := by cases c <;> first | rfl | simp only [fdC, hb]
theorem fdL_b : ∀ l : List D, fdL σ' l = fdL σ l
  | [] => rfl
  | c :: l => by unfold fdL; rw [fdC_b hb, fdL_b l]
theorem fdB_b (c : D) : fdB σ' c = fdB σ c := by
  cases c <;> first | (simp only [fdB]; exact fdC_b hb _) | (simp only [fdB, hb, fdL_b hb]; done)
theorem idB_b (c : D) : idB σ' c = idB σ c := by cases c <;> first | rfl | simp only [idB, hb]
theorem argC_b (m : Nat) (c : D) : argC σ' m c = argC σ m c := by unfold argC; rw [fdC_b hb, fdB_b hb]
theorem argL_b (m : Nat) : ∀ l : List D, argL σ' m l = argL σ m l
  | [] => rfl
  | c :: l => by unfold argL; rw [argC_b hb, argL_b m l]
theorem argD_b (m : Nat) (c : D) : argD σ' m c = argD σ m c := by cases c <;> first | rfl | (simp only [argD]; exact argC_b hb m _) | (simp only [argD, argL_b hb]; done)
theorem bsL_b : ∀ l : List D, bsL σ' l = bsL σ l
  | [] => rfl
  | c :: l => by unfold bsL; rw [idB_b hb, bsL_b l]
theorem aArgs_congr (md : List Nat) : ∀ (l : List Operand) (j : Nat), (∀ z ∈ l, ev σ' z = ev σ z) → aArgs σ' md j l = aArgs σ md j l
  | [], _, _ => rfl
  | z :: l, j, h => by
    unfold aArgs
    rw [h z (by simp), argD_b hb, bsL_b hb, aArgs_congr md l (j + 1) (fun y hy => h y (by simp [hy]))]
theorem aRows_congr {k : Nat} : ∀ (l : List (Nat × Operand)) (j : Nat), (∀ z ∈ l, ev σ' z.2 = ev σ z.2) → aRows σ' k j l = aRows σ k j l
  | [], _, _ => rfl
  | (i, z) :: l, j, h => by
    unfold aRows
    rw [h (i, z) (by simp), aRows_congr l (j + 1) (fun y hy => h y (by simp [hy]))]
    simp only [fdL_b hb]
omit hb in
theorem aFill_congr {fs : List (Nat × Nat × Bool)} : ∀ (l : List (Nat × Operand)) (cells : List D), (∀ z ∈ l, ev σ' z.2 = ev σ z.2) → aFill σ' fs cells l = aFill σ fs cells l
  | [], _, _ => rfl
  | (i, z) :: l, cells, h => by
    have e : ev σ' z = ev σ z := h (i, z) (by simp)
    unfold aFill
    rw [e]
    cases fs[i]? with
    | none => rfl
    | some p =>
      obtain ⟨off, sz, ag⟩ := p
      cases cellsE (bodyT (ev σ z)) with
      | none => rfl
      | some xs => simp only [aFill_congr l _ (fun y hy => h y (by simp [hy]))]
theorem aopB_congr {P : Program} (op : Op) (h : ∀ z ∈ op.operands, ev σ' z = ev σ z) : aopB P σ' op = aopB P σ op := by
  unfold aopB
  cases op <;> try rfl
  · rename_i t parts
    simp only [Op.operands] at h
    simp only [aBuild]
    cases tk P t <;> try rfl
    simp only
    rw [aFill_congr _ _ (fun z hz => h z.2 (by simp; exact ⟨z.1, by simpa using hz⟩))]
  · rename_i t len parts
    simp only [Op.operands] at h
    dsimp only
    cases tk P t <;> try rfl
    dsimp only
    rw [aRows_congr hb _ _ (fun z hz => h z.2 (by simp; exact ⟨z.1, by simpa using hz⟩))]
omit hb in
theorem aFn_congr (op : Op) (h : ∀ z ∈ op.operands, ev σ' z = ev σ z) : aFn σ' op = aFn σ op := by
  unfold aFn
  cases op <;> try rfl
  rename_i c
  obtain ⟨callee, args, ts⟩ := c
  cases callee <;> try rfl
  rename_i fo
  simp only [Op.operands, Call.operands] at h
  dsimp only
  rw [h fo (by simp)]
theorem srcK_b (k : Nat) (c : D) : srcK σ' k c = srcK σ k c := by cases c <;> first | rfl | simp only [srcK, hb]
end
theorem aFn_ops {σ : St} {op : Op} {ob : Prop} {f : FuncId} {caps : List D} {l : List Operand} (h : aFn σ op = some (ob, f, caps, l)) : ∀ z ∈ l, z ∈ op.operands := by
  unfold aFn at h
  split at h
  · rename_i fo args ts
    split at h
    · injection h with h; injection h with e1 e2; injection e2 with e2 e3; injection e3 with e3 e4
      subst e4
      intro z hz
      simp only [Op.operands, Call.operands]
      simp; right; simpa using hz
    · cases h
  · cases h
/-! ### effects: slots are changed one by one, objects as a whole -/
def Ef (θ : D → D) (B : Nat → Option Ob) (dst : Option Tmp) (Y : D) (σ : St) : St := (St.mk (fun i => θ (σ.t i)) B).put dst Y
theorem Ef_put {θ : D → D} {B : Nat → Option Ob} {dst : Option Tmp} {Y : D} (σ : St) (d : Option Tmp) (z : D) (h : d ≠ none → d ≠ dst) : Ef θ B dst Y (σ.put d z) = (Ef θ B dst Y σ).put d (θ z) := by
  cases d with
  | none => rfl
  | some d =>
    have h := h (by simp)
    cases dst with
    | none =>
      simp only [Ef, St.put]
      congr 1
      funext i
      by_cases e : i = d <;> simp [e]
    | some e' =>
      have hne : d ≠ e' := fun q => h (by rw [q])
      simp only [Ef, St.put]
      congr 1
      funext i
      by_cases e1 : i = e'
      · subst e1; simp [Ne.symm hne]
      · by_cases e : i = d <;> simp [e, e1, hne]
def Shp {α : Type} (σ : St) (R : St → Prop) (F : St → Option (α × St)) (a : α) : Prop := ∃ (θ : D → D) (B : Nat → Option Ob), ∀ τ : St, τ.b = σ.b → R τ → F τ = some (a, ⟨fun i => θ (τ.t i), B⟩)
theorem foldB_shp {σ σ' : St} {id : Nat} {ob : Prop} {ds : List D} (h : foldB σ id = some (ob, ds, σ')) : ∃ (θ : D → D) (B : Nat → Option Ob), ∀ τ : St, τ.b = σ.b → foldB τ id = some (ob, ds, ⟨fun i => θ (τ.t i), B⟩) := by
  unfold foldB at h
  split at h
  · rename_i row hb
    split at h
    · rename_i ob' ds' hf
      injection h with h; injection h with e1 e2; injection e2 with e2 e3
      subst e1 e2 e3
      refine ⟨scT (pOut (idsC row)), ((σ.sc (pOut (idsC row)) (pOut (idsC row))).setB id (.box ds')).b, fun τ hτ => ?_⟩
      unfold foldB
      simp only [hτ, hb, fdL_b hτ, hf]
      congr 3
      unfold St.setB St.sc
      simp only [hτ]
    · cases h
  · cases h
theorem prepC_shp {σ σ' : St} {m : Nat} {c : D} {ob : Prop} (h : prepC σ m c = some (ob, σ')) : Shp σ (fun _ => True) (fun τ => prepC τ m c) ob := by
  have same : prepC σ m c = some (ob, σ) → (∀ τ : St, τ.b = σ.b → ∃ o, prepC τ m c = some (o, τ) ∧ o = ob) → Shp σ (fun _ => True) (fun τ => prepC τ m c) ob := fun h1 h2 => by
    refine ⟨fun y => y, σ.b, fun τ hτ _ => ?_⟩
    obtain ⟨o, q1, rfl⟩ := h2 τ hτ
    show prepC τ m c = _
    rw [q1, ← hτ]
  unfold prepC at h
  split at h
  · rename_i hid
    injection h with h; injection h with e1 e2; subst e1 e2
    exact same (by unfold prepC; rw [hid]) (fun τ hτ => ⟨True, by unfold prepC; rw [hid], rfl⟩)
  · rename_i id hid
    split at h
    · rename_i row hb
      split at h
      · rename_i ob' ds σ1 hf
        injection h with h; injection h with e1 e2
        subst e1
        obtain ⟨θ, B, hs⟩ := foldB_shp hf
        by_cases hm : m = 2
        · refine ⟨fun y => frT id (.box ds) (θ y), fun i => if i = id then none else (B i).map (frO id (.box ds)), fun τ hτ _ => ?_⟩
          show prepC τ m c = _
          unfold prepC
          simp only [hid, hτ, hb, hs τ hτ, if_pos hm]
          rfl
        · refine ⟨θ, B, fun τ hτ _ => ?_⟩
          show prepC τ m c = _
          unfold prepC
          simp only [hid, hτ, hb, hs τ hτ, if_neg hm]
      · cases h
    · rename_i e k rows hb
      injection h with h; injection h with e1 e2
      subst e1
      by_cases hm : m = 2
      · refine ⟨fun y => frT id (.arr e k rows) y, fun i => if i = id then none else (σ.b i).map (frO id (.arr e k rows)), fun τ hτ _ => ?_⟩
        show prepC τ m c = _
        unfold prepC
        simp only [hid, hτ, hb, if_pos hm]
        unfold St.fr
        simp only [hτ]
      · rw [if_neg hm] at e2
        subst e2
        exact same (by unfold prepC; simp only [hid, hb, if_neg hm]) (fun τ hτ => ⟨True, by unfold prepC; simp only [hid, hτ, hb, if_neg hm], rfl⟩)
    · cases h
theorem prepL_shp {m : Nat} : ∀ (l : List D) {σ σ' : St} {ob : Prop}, prepL m l σ = some (ob, σ') → Shp σ (fun _ => True) (fun τ => prepL m l τ) ob
  | [], σ, σ', ob, h => by
    injection h with h; injection h with e1 e2; subst e1 e2
    exact ⟨fun y => y, σ.b, fun τ hτ _ => by show some (True, τ) = _; rw [← hτ]⟩
  | c :: l, σ, σ', ob, h => by
    unfold prepL at h
    split at h
    · rename_i o1 σ1 h1
      split at h
      · rename_i o2 σ2 h2
        injection h with h; injection h with e1 e2
        subst e1 e2
        obtain ⟨θ, B, hs⟩ := prepC_shp h1
        have e := hs σ rfl trivial
        simp only [h1] at e
        injection e with e; injection e with _ e
        obtain ⟨θ2, B2, hs2⟩ := prepL_shp l h2
        refine ⟨fun y => θ2 (θ y), B2, fun τ hτ _ => ?_⟩
        show prepL m (c :: l) τ = _
        unfold prepL
        have q1 := hs τ hτ trivial
        have q2 := hs2 ⟨fun i => θ (τ.t i), B⟩ (by rw [e]) trivial
        simp only at q1 q2
        simp only [q1, q2]
      · cases h
    · cases h
theorem ev_th {σ τ : St} {θ : D → D} {B B' : Nat → Option Ob} {z : Operand} (h : ev τ z = ev σ z) : ev ⟨fun i => θ (τ.t i), B⟩ z = ev ⟨fun i => θ (σ.t i), B'⟩ z := by
  cases z with
  | tmp t => exact congrArg θ h
  | const v => rfl
  | func f => rfl
  | global _ => rfl
theorem prepA_shp {md : List Nat} : ∀ (l : List Operand) (j : Nat) {σ σ' : St} {ob : Prop}, prepA md j l σ = some (ob, σ') → Shp σ (fun τ => ∀ z ∈ l, ev τ z = ev σ z) (fun τ => prepA md j l τ) ob
  | [], j, σ, σ', ob, h => by
    injection h with h; injection h with e1 e2; subst e1 e2
    exact ⟨fun y => y, σ.b, fun τ hτ _ => by show some (True, τ) = _; rw [← hτ]⟩
  | z :: l, j, σ, σ', ob, h => by
    unfold prepA at h
    split at h
    · rename_i hm
      obtain ⟨θ, B, hs⟩ := prepA_shp l (j + 1) h
      refine ⟨θ, B, fun τ hτ hv => ?_⟩
      show prepA md j (z :: l) τ = _
      unfold prepA
      rw [if_pos hm]
      exact hs τ hτ (fun y hy => hv y (by simp [hy]))
    · rename_i hm
      split at h
      · rename_i o1 σ1 h1
        split at h
        · rename_i o2 σ2 h2
          injection h with h; injection h with e1 e2
          subst e1 e2
          obtain ⟨θ, B, hs⟩ := prepL_shp _ h1
          have e := hs σ rfl trivial
          simp only [h1] at e
          injection e with e; injection e with _ e
          obtain ⟨θ2, B2, hs2⟩ := prepA_shp l (j + 1) h2
          refine ⟨fun y => θ2 (θ y), B2, fun τ hτ hv => ?_⟩
          show prepA md j (z :: l) τ = _
          unfold prepA
          rw [if_neg hm, hv z (by simp)]
          have q1 := hs τ hτ trivial
          have q2 := hs2 ⟨fun i => θ (τ.t i), B⟩ (by rw [e]) (fun y hy => by rw [e]; exact ev_th (hv y (by simp [hy])))
          simp only at q1 q2
          simp only [q1, q2]
        · cases h
      · cases h
theorem reop_shp : ∀ (l : List Gv) {σ σ' : St} {ob : Prop}, reop l σ = some (ob, σ') → Shp σ (fun _ => True) (fun τ => reop l τ) ob
  | [], σ, σ', ob, h => by
    injection h with h; injection h with e1 e2; subst e1 e2
    exact ⟨fun y => y, σ.b, fun τ hτ _ => by show some (True, τ) = _; rw [← hτ]⟩
  | (i, j, l') :: l, σ, σ', ob, h => by
    unfold reop at h
    split at h
    · rename_i row hb
      split at h
      · rename_i o σ1 h1
        injection h with h; injection h with e1 e2
        subst e1 e2
        obtain ⟨θ, B, hs⟩ := reop_shp l h1
        refine ⟨fun y => θ (scT (pUn i row) y), B, fun τ hτ _ => ?_⟩
        show reop ((i, j, l') :: l) τ = _
        unfold reop
        have q := hs (τ.unfB i row) (by unfold St.unfB; simp only [hτ]) trivial
        simp only at q
        simp only [hτ, hb, q]
        rfl
      · cases h
    · rename_i hno
      obtain ⟨θ, B, hs⟩ := reop_shp l h
      refine ⟨θ, B, fun τ hτ _ => ?_⟩
      show reop ((i, j, l') :: l) τ = _
      have q := hs τ hτ trivial
      unfold reop
      rw [hτ]
      split
      · rename_i row hb; exact absurd hb (hno row)
      · exact q
end Go.Proofs.YtgcdbmcoendcdaaGreat
