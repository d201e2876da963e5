import Derived.Test.YthkgncddilkmbaaGt
/- The second engine, last part: how a body ends; contracts out of bodies. -/
namespace Go.Proofs.Ythkgncddilkmbaa
set_option linter.unusedVariables false
set_option linter.unusedSimpArgs false
open Go.RowKit
def foldM : List Nat → St → Option (Prop × St)
  | [], σ => some (True, σ)
  | i :: r, σ => match σ.b i with
    | some (.box _) => match foldB σ i with
      | some (ob, _, σ1) => match foldM r σ1 with
        | some (o2, σ2) => some (ob ∧ o2, σ2)
        | none => none
      | none => none
    | _ => foldM r σ
theorem foldM_ok {x : Cx} {a : Act} {w : World} : ∀ (l : List Nat) {g : Gh} {σ σ' : St} {ob : Prop}, Rel x g σ a w → foldM l σ = some (ob, σ') → ob → ∃ g', Rel x g' σ' a w
  | [], g, σ, σ', ob, h, hf, ho => by injection hf with hf; injection hf with e1 e2; subst e2; exact ⟨g, h⟩
  | i :: l, g, σ, σ', ob, h, hf, ho => by
    unfold foldM at hf
    split at hf
    · split at hf
      · rename_i ob1 ds σ1 h1
        split at hf
        · rename_i o2 σ2 h2
          injection hf with hf; injection hf with e1 e2
          subst e1 e2
          obtain ⟨g1, q1⟩ := h.foldB h1 ho.1
          exact foldM_ok l q1 h2 ho.2
        · cases hf
      · cases hf
    · exact foldM_ok l h hf ho
def boxP : Nat → List D → List Nat
  | _, [] => []
  | j, .opt _ :: r => pPar j 0 :: boxP (j + 1) r
  | j, _ :: r => boxP (j + 1) r
def boxC : List D → List Nat
  | [] => []
  | .bx id _ :: r => id :: boxC r
  | _ :: r => boxC r
def cellsY : List D → List D
  | [] => []
  | y :: r => cellsD y ++ cellsY r
def gvY : Nat → List D → List Gv
  | _, [] => []
  | m, y :: r => gvL m 0 (cellsD y) ++ gvY (m + 1) r
def treY (σ : St) : D → Option (Prop × D)
  | .ag xs => match fdL σ xs with
    | some (ob, ds) => some (ob, .ag ds)
    | none => none
  | .un => some (True, .un)
  | .tup _ => none
  | .mb _ _ => none
  | c => fdC σ c
def treL (σ : St) : List D → Option (Prop × List D)
  | [] => some (True, [])
  | y :: r => match treY σ y, treL σ r with
    | some (o1, d), some (o2, ds) => some (o1 ∧ o2, d :: ds)
    | _, _ => none
/-- what became of what was given. -/
def outC (σ : St) (ids : List Nat) (nm : Nat) : D → D
  | .opt _ => if pOut ids nm = true then (match σ.b nm with
    | some (.box row) => if row.all deepB = true then .opt row else .un
    | _ => .un) else .un
  | .osl _ _ rows => if pOut ids nm = true then (match σ.b nm with
    | some (.arr e k rows') => if rows'.length = rows.length then .osl e k rows' else .un
    | _ => .un) else .un
  | _ => .un
def outL (σ : St) (ids : List Nat) (j : Nat) : Nat → List D → List D
  | _, [] => []
  | l, c :: r => outC σ ids (pPar j l) c :: outL σ ids j (l + 1) r
def ownB : D → Bool
  | .osl _ _ _ => true
  | .opt _ => true
  | _ => false
def outD (σ : St) (ids : List Nat) (j : Nat) : D → D
  | .ag xs => if xs.any ownB = true then .ag (outL σ ids j 0 xs) else .un
  | c => outC σ ids (pPar j 0) c
def outsA (σ : St) (ids : List Nat) : Nat → List D → List D
  | _, [] => []
  | j, c :: r => outD σ ids j c :: outsA σ ids (j + 1) r
def retM (P : Program) (rs : List ResultVar) (ars : List D) (Rs : D → List D → Prop) (σ : St) : Prop := match foldM (boxP 0 ars) σ with
  | some (o1, σ1) => match aRvs P σ1 rs with
    | some (_, ys0) => match foldM (boxC (cellsY ys0)) σ1 with
      | some (o2, σ2) => match aRvs P σ2 rs with
        | some (o3, ys) => match treL σ2 ys with
          | some (o4, zs) => o1 ∧ o2 ∧ o3 ∧ o4 ∧ nodB (gvN (gvY 0 ys)) = true ∧ Rs (mkRes zs) (outsA σ2 (gvN (gvY 0 ys)) 0 ars)
          | none => False
        | none => False
      | none => False
    | none => False
  | none => False
/-- how a body must end. -/
def retK (P : Program) (rs : List ResultVar) (ars : List D) (Rs : D → List D → Prop) : Exit → St → Prop
  | .normal, σ => retM P rs ars Rs σ
  | .ret, σ => retM P rs ars Rs σ
  | _, _ => False
theorem gvY_of : ∀ (ys : List D) (q m : Nat) (y c : D) (l i : Nat), ys[m]? = some y → (cellsD y)[l]? = some c → idC c = some i → (i, q + m, l) ∈ gvY q ys
  | [], q, m, y, c, l, i, h, _, _ => by simp at h
  | z :: ys, q, 0, y, c, l, i, h, hc, hi => by
    simp at h; subst h
    have := gvL_of q _ 0 l c i hc hi
    rw [Nat.zero_add] at this
    exact List.mem_append_left _ this
  | z :: ys, q, m + 1, y, c, l, i, h, hc, hi => by
    have := gvY_of ys (q + 1) m y c l i (by simpa using h) hc hi
    rw [show q + 1 + m = q + (m + 1) by omega] at this
    exact List.mem_append_right _ this
theorem treL_at {σ : St} : ∀ (l : List D) (ob : Prop) (ds : List D), treL σ l = some (ob, ds) → ob → ds.length = l.length ∧ ∀ (j : Nat) (c d : D), l[j]? = some c → ds[j]? = some d → ∃ o1, treY σ c = some (o1, d) ∧ o1
  | [], ob, ds, h, ho => by injection h with h; injection h with e1 e2; subst e2; exact ⟨rfl, fun j c d q => by simp at q⟩
  | c :: l, ob, ds, h, ho => by
    unfold treL at h
    split at h
    · rename_i o1 d o2 ds' h1 h2
      injection h with h; injection h with e1 e2
      subst e1 e2
      obtain ⟨i1, i2⟩ := treL_at l o2 ds' h2 ho.2
      refine ⟨by simp [i1], fun j c' d' q1 q2 => ?_⟩
      cases j with
      | zero => simp at q1 q2; subst q1 q2; exact ⟨o1, h1, ho.1⟩
      | succ j => exact i2 j c' d' (by simpa using q1) (by simpa using q2)
    · cases h
theorem outL_at (σ : St) (ids : List Nat) (j : Nat) : ∀ (l : List D) (q n : Nat), (outL σ ids j q l)[n]? = (l[n]?).map (outC σ ids (pPar j (q + n)))
  | [], q, n => by simp [outL]
  | c :: l, q, 0 => by simp [outL]
  | c :: l, q, n + 1 => by
    rw [outL, List.getElem?_cons_succ, outL_at σ ids j l (q + 1) n, List.getElem?_cons_succ, show q + 1 + n = q + (n + 1) by omega]
theorem outL_len (σ : St) (ids : List Nat) (j : Nat) (l : List D) (q : Nat) : (outL σ ids j q l).length = l.length := by
  induction l generalizing q with
  | nil => rfl
  | cons c l ih => simp [outL, ih]
theorem outsA_at (σ : St) (ids : List Nat) : ∀ (l : List D) (q n : Nat), (outsA σ ids q l)[n]? = (l[n]?).map (outD σ ids (q + n))
  | [], q, n => by simp [outsA]
  | c :: l, q, 0 => by simp [outsA]
  | c :: l, q, n + 1 => by
    rw [outsA, List.getElem?_cons_succ, outsA_at σ ids l (q + 1) n, List.getElem?_cons_succ, show q + 1 + n = q + (n + 1) by omega]
def reP (gs : List Gv) : Pos → Pos
  | .root i => match gvF gs i with
    | some (m, l) => .ans m l
    | none => if isP i = true then .par ((i - 900000) / 100) ((i - 900000) % 100) else .root i
  | p => p
theorem gvF_none {gs : List Gv} {i : Nat} (h : pOut (gvN gs) i = true) : gvF gs i = none := by
  cases q : gvF gs i with
  | none => rfl
  | some p => exact absurd rfl (pOut_spec h i (List.mem_map.2 ⟨_, gvF_mem (j := p.1) (l := p.2) q, rfl⟩))
theorem ret_ok {P : Program} {N : Nat} {w0 : World} {g0 : Gh} {ars : List D} {vs : List Value} (hl : vs.length = ars.length) (hn : ars.length ≤ 900) (hA : lenA ars = true) (hv : ∀ (j : Nat) (d : D) (u : Value), ars[j]? = some d → vs[j]? = some u → RA g0 w0 j d u) {rs : List ResultVar} {fn : Func} (hrs : fn.results = rs.toArray) {Rs : D → List D → Prop}
    {x : Cx} (hx : x = ⟨P, N, g0.S, fun b => g0.up b ≠ none, w0, (entG g0 vs).β, (entG g0 vs).κ⟩) {g : Gh} {σ : St} {a : Act} {w : World} (hr : Rel x g σ a w) (h : retM P rs ars Rs σ) :
    a.defers = [] ∧ ∃ v, (results fn a.tmps).run P w = .ok v w ∧ ∃ v' g' r outs, Ending.returned v = .returned v' ∧ Below 0 w0 w ∧ (∀ b, b < w0.heap.size → g0.up b = none → w.heap[b]? = w0.heap[b]?) ∧ (∀ b, g0.S b → Gh.S g' b) ∧ (∀ b, b < w0.heap.size → g'.S b → g0.S b ∨ g0.up b ≠ none) ∧ (∀ b, g'.S b → b < w.heap.size) ∧
      (∀ b p, g'.up b = some p → b < w.heap.size ∧ (b < w0.heap.size → g0.up b ≠ none) ∧ ¬ g'.S b) ∧ Rs r outs ∧ RNs g' w r v' ∧ ∀ (j : Nat) (d : D) (u : Value), outs[j]? = some d → vs[j]? = some u → RU g' w j d u := by
  have hP : x.P = P := by rw [hx]
  unfold retM at h
  split at h
  · rename_i o1 σ1 f1
    split at h
    · rename_i q0 ys0 a1
      split at h
      · rename_i o2 σ2 f2
        split at h
        · rename_i o3 ys a2
          split at h
          · rename_i o4 zs t1
            obtain ⟨p1, p2, p3, p4, p5, p6⟩ := h
            obtain ⟨g1, hr1⟩ := foldM_ok _ hr f1 p1
            obtain ⟨g2, hr2⟩ := foldM_ok _ hr1 f2 p2
            rw [← hP] at a2
            obtain ⟨vs', w1, w2, w3⟩ := aRvs_ok hr2 _ _ _ a2 p3
            rw [hP] at w1
            let gs := gvY 0 ys
            let gr : Gh := ⟨g2.β, g2.κ, fun b => (g2.up b).map (reP gs), g2.S⟩
            have mv : ∀ {p : Option Pos} {c : D} {u : Value}, Rep g2.S g2.up w p c u → Rep gr.S gr.up w (p.map (reP gs)) c u := fun h => by
              have m : Mv (fun _ => True) (reP gs) g2 gr w w := ⟨fun b hb => ⟨hb, rfl⟩, fun b p hb _ => ⟨by show (g2.up b).map _ = _; rw [hb]; rfl, rfl⟩, fun b p o _ _ => ⟨trivial, rfl⟩⟩
              exact Rep.move m h (fun _ _ => trivial)
            obtain ⟨l1, l2⟩ := treL_at _ _ _ t1 p4
            have cell : ∀ (m l : Nat) (y c d : D) (ob : Prop) (u : Value), ys[m]? = some y → (cellsD y)[l]? = some c → fdC σ2 c = some (ob, d) → ob → RC g2 w none c u → Rep gr.S gr.up w (some (.ans m l)) d u := fun m l y c d ob u h1 h2 h3 h4 h5 => by
              rcases fdC_ok hr2 h3 h4 h5 with ⟨q1, q2⟩ | ⟨i, q1, q2⟩
              · exact (mv q2).any _
              · have hm := gvY_of ys 0 m y c l i h1 h2 q1
                rw [Nat.zero_add] at hm
                have := mv q2
                have hm' : gvF gs i = some (m, l) := gvF_of p5 hm
                simp only [Option.map_some, reP, hm'] at this
                exact this
            have hRN : ∀ (m : Nat) (y z : D) (u : Value), ys[m]? = some y → zs[m]? = some z → vs'[m]? = some u → RN gr w m z u := fun m y z u h1 h2 h3 => by
              obtain ⟨ob, q1, q2⟩ := l2 m y z h1 h2
              have hu := w3 m y u h1 h3
              cases y with
              | ag xs =>
                simp only [treY] at q1
                split at q1
                · rename_i ob' ds hf
                  injection q1 with q1; injection q1 with e1 e2
                  subst e1 e2
                  obtain ⟨us, rfl, u1, u2⟩ := hu
                  obtain ⟨k1, k2⟩ := fdL_at _ _ _ hf q2
                  refine ⟨us, rfl, by rw [u1, k1], fun l d z hd hz => ?_⟩
                  have hlt : l < xs.length := by rw [← k1]; exact (List.getElem?_eq_some_iff.1 hd).1
                  have hc : xs[l]? = some xs[l] := List.getElem?_eq_getElem hlt
                  obtain ⟨o5, k3, k4⟩ := k2 l _ d hc hd
                  exact cell m l _ _ d o5 z h1 hc k3 k4 (u2 l _ z hc hz)
                · cases q1
              | un => simp only [treY] at q1; injection q1 with q1; injection q1 with e1 e2; subst e2; trivial
              | tup _ => cases q1
              | mb _ _ => cases q1
              | _ =>
                simp only [treY] at q1
                simp only [RE] at hu
                have := cell m 0 _ _ z ob u h1 rfl q1 q2 hu
                cases z <;> first | exact this | cases this
            have hres : ∃ v, (results fn a.tmps).run P w = .ok v w ∧ RNs gr w (mkRes zs) v := by
              rw [results_eq, Array.mapM_eq_mapM_toList]
              have w1 : (List.mapM (rvS a.tmps) fn.results.toList).run P w = .ok vs' w := by rw [hrs]; exact w1
              simp only [Sem.run_bind, Sem.run_map, w1, Result.andThen_ok, Sem.run_pure]
              match ys, zs, vs', l1, w2, hRN with
              | [], [], [], _, _, _ => exact ⟨_, rfl, [], rfl, rfl, fun m y u q => by simp at q⟩
              | [y], [z], [v], _, _, hRN =>
                refine ⟨v, by simp, ?_⟩
                have := hRN 0 y z v rfl rfl rfl
                cases z <;> first | exact this | (simp only [RN] at this; cases this)
              | y1 :: y2 :: ys, z1 :: z2 :: zs, v1 :: v2 :: vs', l1, w2, hRN =>
                refine ⟨.tuple (v1 :: v2 :: vs').toArray, by simp, v1 :: v2 :: vs', rfl, by simp at l1 w2 ⊢; omega, fun m z u hz hu => ?_⟩
                have hm : m < (y1 :: y2 :: ys).length := by rw [← l1]; exact (List.getElem?_eq_some_iff.1 hz).1
                exact hRN m _ z u (List.getElem?_eq_getElem hm) hz hu
            obtain ⟨v, v1, v2⟩ := hres
            have hbβ : x.β0 = (entG g0 vs).β ∧ x.κ0 = (entG g0 vs).κ := by rw [hx]; exact ⟨rfl, rfl⟩
            have hout : ∀ (j l : Nat) (d c : D) (u : Value), ars[j]? = some d → vs[j]? = some u → cellD d l = some c → l < 100 → outC σ2 (gvN gs) (pPar j l) c = .un ∨ Rep gr.S gr.up w (some (.par j l)) (outC σ2 (gvN gs) (pPar j l) c) (cellV u l) := fun j l d c u hd hu hc hl' => by
              obtain ⟨e1, e2, e3⟩ := pPar_inv (j := j) (l := l) (by have := (List.getElem?_eq_some_iff.1 hd).1; omega) hl'
              have hRA := RA_at (hv j d u hd hu) hc
              have hβ : ∀ o, σ2.b (pPar j l) = some o → g2.β (pPar j l) = blkV (cellV u l) ∧ g2.κ (pPar j l) = capV (cellV u l) := fun o ho => by
                obtain ⟨q1, q2⟩ := hr2.par _ o ho e1
                rw [q1, q2, hbβ.1, hbβ.2]
                constructor
                · show (if _ then _ else _) = _
                  rw [if_pos e1, e2, e3, getD_of hu]
                · show (if _ then _ else _) = _
                  rw [if_pos e1, e2, e3, getD_of hu]
              have hpos : pOut (gvN gs) (pPar j l) = true → reP gs (.root (pPar j l)) = .par j l := fun q => by
                simp only [reP, gvF_none q, if_pos e1, e2, e3]
              cases c with
              | opt row0 =>
                simp only [outC]
                split
                · rename_i hp
                  split
                  · rename_i row hb
                    split
                    · rename_i hdp
                      right
                      obtain ⟨b, cs, ty, b1, b2, b3, b4, b5⟩ := hr2.ob _ _ hb
                      have q := (hβ _ hb).1
                      generalize cellV u l = z at hRA q
                      cases hRA with
                      | @opt _ _ b' ty' cs' r1 r2 r3 r4 =>
                        rw [b1] at q
                        injection q with q
                        subst q
                        have := mv (Rep.opt (S := g2.S) (p := .root (pPar j l)) cs b2 b3 b4 fun j' d' hj => (b5 j' d' hj).deep (List.all_eq_true.1 hdp d' (List.mem_of_getElem? hj)))
                        rw [Option.map_some, hpos hp] at this
                        exact this
                    · exact .inl rfl
                  · exact .inl rfl
                · exact .inl rfl
              | osl e k rows =>
                simp only [outC]
                split
                · rename_i hp
                  split
                  · rename_i e' k' rows' hb
                    split
                    · rename_i hlen
                      right
                      have hR : Rep g2.S g2.up w (some (.root (pPar j l))) (.osl e' k' rows') (.slice ((g2.β (pPar j l)).map fun b => ⟨b, 0, none⟩) rows'.length (g2.κ (pPar j l))) := hr2.ob _ _ hb
                      obtain ⟨q1, q2⟩ := hβ _ hb
                      have := mv hR
                      rw [Option.map_some, hpos hp, q1, q2, hlen] at this
                      generalize cellV u l = z at hRA this
                      cases hRA with
                      | osl0 => exact this
                      | osl cs' r1 r2 r3 r4 r5 r6 r7 => exact this
                    · exact .inl rfl
                  · exact .inl rfl
                · exact .inl rfl
              | _ => exact .inl rfl
            refine ⟨hr.dfr, v, v1, v, gr, _, _, rfl, by have := hr2.bel; rw [hx] at this; exact this, fun b h1 h2 => ?_, fun b hs => ?_, fun b h1 h2 => ?_, hr2.new, fun b p hp => ?_, p6, v2, fun j d u hd hu => ?_⟩
            · have := hr2.fr b (by rw [hx]; exact h1) (by rw [hx]; simpa using h2)
              rw [hx] at this; exact this
            · exact hr2.s0 b (by rw [hx]; exact hs)
            · have := hr2.old b (by rw [hx]; exact h1) h2
              rw [hx] at this; exact this
            · obtain ⟨p', hp', -⟩ := Option.map_eq_some_iff.1 (show (g2.up b).map _ = some p from hp)
              obtain ⟨k1, k2, k3⟩ := hr2.own b p' hp'
              rw [hx] at k2
              exact ⟨k1, k2, k3⟩
            · rw [outsA_at, Nat.zero_add] at hd
              obtain ⟨d0, k1, rfl⟩ := Option.map_eq_some_iff.1 hd
              have one : ∀ c, cellD d0 0 = some c → cellV u 0 = u → (outC σ2 (gvN gs) (pPar j 0) c = .un ∨ Rep gr.S gr.up w (some (.par j 0)) (outC σ2 (gvN gs) (pPar j 0) c) u) := fun c hc e => by
                have := hout j 0 d0 c u k1 hu hc (by omega)
                rwa [e] at this
              have hRA0 := hv j d0 u k1 hu
              cases d0 with
              | ag xs =>
                simp only [outD]
                split
                · obtain ⟨us, e, u1, u2⟩ := hRA0
                  refine ⟨us, e, by rw [outL_len]; exact u1, fun l c z hc hz => ?_⟩
                  rw [outL_at, Nat.zero_add] at hc
                  obtain ⟨c0, k2, rfl⟩ := Option.map_eq_some_iff.1 hc
                  have := hout j l _ c0 u k1 hu k2 (by have := lenA_at ars hA j xs k1; have := (List.getElem?_eq_some_iff.1 k2).1; omega)
                  have hz' : cellV u l = z := by rw [e]; exact lgetD hz
                  rw [hz'] at this
                  exact this
                · trivial
              | opt row0 =>
                simp only [RA] at hRA0
                rcases one _ rfl (cellV_one hRA0.one 0) with q | q
                · change RU gr w j (outC σ2 (gvN gs) (pPar j 0) (.opt row0)) u; rw [q]; trivial
                · change RU gr w j (outC σ2 (gvN gs) (pPar j 0) (.opt row0)) u
                  generalize outC σ2 (gvN gs) (pPar j 0) (D.opt row0) = z at q
                  cases z <;> first | exact q | trivial | cases q
              | osl e k rows0 =>
                simp only [RA] at hRA0
                rcases one _ rfl (cellV_one hRA0.one 0) with q | q
                · change RU gr w j (outC σ2 (gvN gs) (pPar j 0) (.osl e k rows0)) u; rw [q]; trivial
                · change RU gr w j (outC σ2 (gvN gs) (pPar j 0) (.osl e k rows0)) u
                  generalize outC σ2 (gvN gs) (pPar j 0) (D.osl e k rows0) = z at q
                  cases z <;> first | exact q | trivial | cases q
              | _ => trivial
          · exact h.elim
        · exact h.elim
      · exact h.elim
    · exact h.elim
  · exact h.elim
theorem FCon.intro (M : Md) {f : FuncId} (fn : Func) {c : Code} (hf : M.P.funcs[f]? = some fn) (hname : (fn.name == "runtime.NumGoroutine") = false) (hb : fn.body = some c) (N : Nat) (hN : fn.ntmps = N) {rs : List ResultVar} (hrs : fn.results = rs.toArray) (pl : List (Nat × Plan)) (hck : chkC pl N c = true) {ars : List D} {Rs : D → List D → Prop}
    (hlen : ars.length ≤ N) (hn : ars.length ≤ 900) (hA : lenA ars = true) (ho : opnB ars = true) (h : AC M N pl c (retK M.P rs ars Rs) (opnS 0 ars (St.ent ars))) : FCon M.P f ars Rs := by
  refine ⟨fun vs w => ?_, fun w g vs h1 h2 hl hv => calls_of_wp hf hb ?_⟩
  · have hname' : ¬ fn.name = "runtime.NumGoroutine" := by simpa using hname
    have hbn : ¬ fn.body = none := by rw [hb]; simp
    simp [callFunc, hf, hname', hbn]
  · have hR := Rel.entry (P := M.P) (N := N) h1 h2 hl hv hA hn hlen
    obtain ⟨g', hR'⟩ := opn_ok ars 0 _ _ hR ho (by omega) (fun q row hq => by
      have hq' := (List.getElem?_eq_some_iff.1 hq).1
      obtain ⟨e1, e2, e3⟩ := pPar_inv (j := q) (l := 0) (by omega) (by omega)
      rw [Nat.zero_add]
      show entO ars _ = _
      unfold entO
      rw [if_pos e1, e2, e3, hq]; rfl)
    rw [← hN] at hR'
    refine h hck _ g' _ w _ rfl hN hR' ?_
    intro e σ' g'' a' w' hr' hK
    cases e with
    | normal => exact ret_ok hl hn hA hv hrs rfl hr' hK
    | ret => exact ret_ok hl hn hA hv hrs rfl hr' hK
    | exit id => exact hK.elim
    | goto l => exact hK.elim
    | panic c => exact hK.elim
    | outgrown => exact hK.elim
end Go.Proofs.Ythkgncddilkmbaa
