import Derived.Test.YthkgncddilkmbaaGm
/- The second engine, fourteenth part: the frame behind a call is right. -/
namespace Go.Proofs.Ythkgncddilkmbaa
set_option linter.unusedVariables false
set_option linter.unusedSimpArgs false
open Go.RowKit
theorem cellV_one {v : Value} (h : v.oneCell' = true) (l : Nat) : cellV v l = v := by cases v <;> first | rfl | cases h
theorem compV_one {v : Value} (h : v.oneCell' = true) (m : Nat) : compV v m = v := by cases v <;> first | rfl | cases h
theorem lgetD {us : List Value} {m : Nat} {u : Value} (h : us[m]? = some u) : us.toArray.getD m undef = u := getD_toList (by simpa using h)
theorem RN_at {g : Gh} {w : World} {m : Nat} {x : D} {u : Value} (h : RN g w m x u) {l : Nat} {c : D} (hc : cellD x l = some c) : c = .un ∨ Rep g.S g.up w (some (.ans m l)) c (cellV u l) := by
  have one : ∀ d : D, Rep g.S g.up w (some (.ans m 0)) d u → (if l = 0 then some d else none) = some c → c = .un ∨ Rep g.S g.up w (some (.ans m l)) c (cellV u l) := by
    intro d h' hc'
    split at hc'
    · rename_i e; subst e; injection hc' with hc'; subst hc'
      rw [cellV_one h'.one]; exact .inr h'
    · cases hc'
  cases x with
  | un => simp only [cellD] at hc; split at hc; (injection hc with hc; exact .inl hc.symm); cases hc
  | ag xs =>
    obtain ⟨us, rfl, h1, h2⟩ := h
    have hl : l < us.length := by rw [h1]; exact (List.getElem?_eq_some_iff.1 hc).1
    have hu := List.getElem?_eq_getElem hl
    have : cellV (.agg us.toArray) l = us[l] := lgetD hu
    rw [this]
    exact .inr (h2 l c _ hc hu)
  | _ => simp only [RN] at h; exact one _ h hc
theorem RNs_at {g : Gh} {w : World} {r : D} {v : Value} (h : RNs g w r v) {m l : Nat} {x c : D} (hx : compD r m = some x) (hc : cellD x l = some c) : c = .un ∨ Rep g.S g.up w (some (.ans m l)) c (cellV (compV v m) l) := by
  have one : ∀ d : D, RN g w 0 d v → (if m = 0 then some d else none) = some x → c = .un ∨ Rep g.S g.up w (some (.ans m l)) c (cellV (compV v m) l) := by
    intro d h' hx'
    split at hx'
    · rename_i e; subst e; injection hx' with hx'; subst hx'
      have q := RN_at h' hc
      cases d with
      | un => simp only [cellD] at hc; split at hc; (injection hc with hc; exact .inl hc.symm); cases hc
      | ag xs => obtain ⟨us, rfl, h1, h2⟩ := h'; exact q
      | tup _ => simp only [RN] at h'; cases h'
      | mb _ _ => simp only [RN] at h'; cases h'
      | bx _ _ => simp only [RN] at h'; cases h'
      | el _ _ _ _ => simp only [RN] at h'; cases h'
      | bs _ _ _ => simp only [RN] at h'; cases h'
      | _ => simp only [RN] at h'; rw [compV_one h'.one]; exact q
    · cases hx'
  cases r with
  | tup xs =>
    obtain ⟨us, rfl, h1, h2⟩ := h
    have hl : m < us.length := by rw [h1]; exact (List.getElem?_eq_some_iff.1 hx).1
    have hu := List.getElem?_eq_getElem hl
    have : compV (.tuple us.toArray) m = us[m] := lgetD hu
    rw [this]
    exact RN_at (h2 m x _ hx hu) hc
  | _ => simp only [RNs] at h; exact one _ h hx
theorem RU_at {g : Gh} {w : World} {j : Nat} {x : D} {u : Value} (h : RU g w j x u) {l : Nat} {c : D} (hc : cellD x l = some c) : c = .un ∨ Rep g.S g.up w (some (.par j l)) c (cellV u l) := by
  have one : ∀ d : D, Rep g.S g.up w (some (.par j 0)) d u → (if l = 0 then some d else none) = some c → c = .un ∨ Rep g.S g.up w (some (.par j l)) c (cellV u l) := by
    intro d h' hc'
    split at hc'
    · rename_i e; subst e; injection hc' with hc'; subst hc'
      rw [cellV_one h'.one]; exact .inr h'
    · cases hc'
  cases x with
  | un => simp only [cellD] at hc; split at hc; (injection hc with hc; exact .inl hc.symm); cases hc
  | ag xs =>
    obtain ⟨us, rfl, h1, h2⟩ := h
    have hl : l < us.length := by rw [h1]; exact (List.getElem?_eq_some_iff.1 hc).1
    have hu := List.getElem?_eq_getElem hl
    have : cellV (.agg us.toArray) l = us[l] := lgetD hu
    rw [this]
    exact h2 l c _ hc hu
  | _ => simp only [RU] at h; exact one _ h hc
theorem Pure.cell {x c : D} (h : Pure x) {l : Nat} (hc : cellD x l = some c) : Pure c := by
  cases x with
  | ag xs => cases h with | ag h => exact h l c hc
  | _ => simp only [cellD] at hc; split at hc; (injection hc with hc; subst hc; exact h); cases hc
theorem Pure.comp {x c : D} (h : Pure x) {l : Nat} (hc : compD x l = some c) : Pure c := by
  cases x with
  | tup xs => cases h with | tup h => exact h l c hc
  | _ => simp only [compD] at hc; split at hc; (injection hc with hc; subst hc; exact h); cases hc
theorem Und.some {up : Nat → Option Pos} {R : Nat → Prop} {b : Nat} (h : Und up R b) : ∃ i, R i := by
  induction h with
  | root _ h => exact ⟨_, h⟩
  | cell _ _ ih => exact ih
theorem ansB_ok {d m l : Nat} (hd : d < 1000) (hm : m < 40) (hl : l < 20) : ansB d (ansN d m l) = true ∧ ((ansN d m l) / 1000 - 1) / 20 = m ∧ ((ansN d m l) / 1000 - 1) % 20 = l := by
  unfold ansB ansN
  have h1 : (1000 * (20 * m + l + 1) + d) / 1000 = 20 * m + l + 1 := by omega
  rw [h1]
  refine ⟨?_, by omega, by omega⟩
  simp only [Bool.and_eq_true, decide_eq_true_eq]
  omega
theorem ansB_inv {d i : Nat} (h : ansB d i = true) : ansN d ((i / 1000 - 1) / 20) ((i / 1000 - 1) % 20) = i ∧ isP i = false := by
  unfold ansB at h
  simp only [Bool.and_eq_true, decide_eq_true_eq] at h
  unfold ansN isP
  refine ⟨by omega, ?_⟩
  simp only [Bool.and_eq_false_iff, decide_eq_false_iff_not]
  omega
theorem Rep.shC {g : Gh} {w : World} {d m l : Nat} {c : D} {u : Value} (h : Rep g.S g.up w (some (.root (ansN d m l))) c u) (hβ : g.β (ansN d m l) = blkV u) (hκ : g.κ (ansN d m l) = capV u) : RC g w none (shC d m l c) u := by
  cases c with
  | osl e k rows =>
    show u = .slice ((g.β (ansN d m l)).map _) _ _ ∧ _
    rw [hβ, hκ]
    cases h with
    | osl0 => exact ⟨rfl, Nat.zero_le _, by simp [capV, maxLen], fun _ => rfl⟩
    | osl cs' r1 r2 r3 r4 r5 r6 r7 => exact ⟨rfl, r3, r4, fun q => by cases q⟩
  | opt r =>
    cases h with
    | opt cs' r1 r2 r3 r4 => exact ⟨_, hβ, rfl⟩
  | _ => exact (h.free (fun _ _ _ q => by cases q) (fun _ q => by cases q) none).rc
set_option maxHeartbeats 1000000 in
theorem Rel.call {x : Cx} {g : Gh} {σ : St} {a : Act} {w : World} (hr : Rel x g σ a w) {d : Nat} (hd : d < 1000) {gs : List Gv} {bs : List Nat} {vs : List Value} (hnd : nodB (gvN gs) = true) (hnk : nodB (gvK gs) = true) (hdis : ∀ b ∈ bs, b ∉ gvN gs)
    (hgv : ∀ i j l, (i, j, l) ∈ gs → (∃ o, σ.b i = some o) ∧ ∃ u, vs[j]? = some u ∧ ((∃ k n, RC g w none (.bs i k n) (cellV u l)) ∨ RC g w none (.bx i 0) (cellV u l))) {w' : World} {g' : Gh} {r : D} {outs : List D} {v : Value}
    (b1 : Below 0 w w') (b2 : ∀ b, b < w.heap.size → (calG g gs bs).up b = none → w'.heap[b]? = w.heap[b]?) (b3 : ∀ b, (calG g gs bs).S b → g'.S b) (b4 : ∀ b, b < w.heap.size → g'.S b → (calG g gs bs).S b ∨ (calG g gs bs).up b ≠ none) (b5 : ∀ b, g'.S b → b < w'.heap.size)
    (b6 : ∀ b p, g'.up b = some p → b < w'.heap.size ∧ (b < w.heap.size → (calG g gs bs).up b ≠ none) ∧ ¬ g'.S b) (b7 : RNs g' w' r v) (b8 : ∀ (j : Nat) (d : D) (u : Value), outs[j]? = some d → vs[j]? = some u → RU g' w' j d u)
    (hpu : bs = [] ∨ (Pure r ∧ ∀ o ∈ outs, Pure o)) (hlen : lenT r = true) : ∃ ga, Rel x ga (σ.cal d gs r outs) a w' ∧ RT ga w' (shA d r) v := by
  classical
  let Rg : Nat → Prop := fun i => i ∈ gvN gs
  let Rb : Nat → Prop := fun i => i ∈ bs
  let f : Nat → Value := fun i => cellV (compV v ((i / 1000 - 1) / 20)) ((i / 1000 - 1) % 20)
  let ga : Gh := ⟨fun i => if ansB d i = true then blkV (f i) else g.β i, fun i => if ansB d i = true then capV (f i) else g.κ i, fun b => if b < w.heap.size ∧ ¬ Und g.up Rg b then g.up b else (g'.up b).map (poutG gs d), fun b => g'.S b ∧ ¬ Und g.up Rb b⟩
  have hout : ∀ b, ¬ Und g.up Rg b → (calG g gs bs).up b = none := fun b q => Classical.byContradiction fun e => q (calG_out.1 e)
  have ev : Ev (fun p => ¬ PU g.up Rg p) (fun p => p) (qCal d gs outs) (fun i => !ansB d i && !inG gs i) g ga w w' := by
    refine ⟨⟨fun b hb => ⟨⟨b3 b (.inl hb), fun q => (hr.und q).2.2 hb⟩, b2 b (hr.new b hb) (hout b fun q => (hr.und q).2.2 hb)⟩, fun b p hb hp => ?_, fun b p o hb hp => ⟨fun q => hp ((und_iff hb).1 q), rfl⟩⟩, fun i hi => ?_, fun i hi => ?_⟩
    · have hn : ¬ Und g.up Rg b := fun q => hp ((und_iff hb).1 q)
      have hlt := (hr.own b p hb).1
      refine ⟨?_, b2 b hlt (hout b hn)⟩
      show (if _ then _ else _) = _
      rw [if_pos ⟨hlt, hn⟩]; exact hb
    · simp only [qCal, Bool.and_eq_true, Bool.not_eq_true'] at hi
      exact ⟨by show (if _ then _ else _) = _; rw [if_neg (by rw [hi.1]; simp)], by show (if _ then _ else _) = _; rw [if_neg (by rw [hi.1]; simp)]⟩
    · simp only [Bool.and_eq_true, Bool.not_eq_true'] at hi
      refine ⟨by simp [qCal, hi.1, hi.2], fun q => ?_, rfl⟩
      have : inG gs i = true := inG_iff.2 q
      rw [hi.2] at this; cases this
  have hR := hr.ev ev b1 (fun b hb hg => b2 b (by have := hr.bel.size; omega) (hout b fun q => hg ((hr.und q).2.1 hb))) (fun b hb hs => by
    rcases b4 b (by have := hr.bel.size; omega) hs.1 with (q | q) | q
    · exact .inl q
    · exact absurd q hs.2
    · exact .inr ((hr.und (calG_out.1 q)).2.1 hb)) (fun b hs => b5 b hs.1) (fun b p hp => by
    simp only [ga] at hp
    split at hp
    · rename_i q
      obtain ⟨o1, o2, o3⟩ := hr.own b p hp
      refine ⟨by have := b1.size; omega, o2, fun hs => ?_⟩
      rcases b4 b q.1 hs.1 with (r | r) | r
      · exact o3 r
      · exact hs.2 r
      · exact q.2 (calG_out.1 r)
    · obtain ⟨p', hp', -⟩ := Option.map_eq_some_iff.1 hp
      obtain ⟨o1, o2, o3⟩ := b6 b p' hp'
      exact ⟨o1, fun q => (hr.und (calG_out.1 (o2 (by have := hr.bel.size; omega)))).2.1 q, fun hs => o3 hs.1⟩)
  have hmv : ∀ (p : Option Pos) (c : D) (u : Value), Rep g'.S g'.up w' p c u → (bs = [] ∨ Pure c) → Rep ga.S ga.up w' (p.map (poutG gs d)) c u := fun p c u h hp => by
    refine Rep.pmove (fun b p hb => ⟨?_, rfl⟩) (fun b o => rfl) h (hp.imp (fun q b hs => ⟨⟨hs, fun e => ?_⟩, rfl⟩) id)
    · show (if _ then _ else _) = _
      rw [if_neg (fun q => q.2 (calG_out.1 ((b6 b p hb).2.1 q.1))), hb]; rfl
    · obtain ⟨i, hi⟩ := e.some
      simp only [Rb, q] at hi
      cases hi
  -- the answer's cells
  have hcell : ∀ (m l : Nat) (y c : D), compD r m = some y → cellD y l = some c → c = .un ∨ Rep ga.S ga.up w' (some (.root (ansN d m l))) c (cellV (compV v m) l) := fun m l y c h1 h2 => by
    rcases RNs_at b7 h1 h2 with q | q
    · exact .inl q
    · exact .inr (hmv _ _ _ q (hpu.imp id fun p => (p.1.comp h1).cell h2))
  have hβ : ∀ i, ansB d i = true → ga.β i = blkV (f i) ∧ ga.κ i = capV (f i) := fun i hi => ⟨by show (if _ then _ else _) = _; rw [if_pos hi], by show (if _ then _ else _) = _; rw [if_pos hi]⟩
  have hRC : ∀ (m l : Nat) (y c : D) (u : Value), m < 40 → l < 20 → compD r m = some y → cellD y l = some c → cellV (compV v m) l = u → RE ga w' (shC d m l c) u ∧ (c ≠ .un → RC ga w' none (shC d m l c) u) := fun m l y c u hm hl h1 h2 e => by
    obtain ⟨a1, a2, a3⟩ := ansB_ok hd hm hl
    have hf : f (ansN d m l) = u := by show cellV (compV v _) _ = u; rw [a2, a3]; exact e
    obtain ⟨c1, c2⟩ := hβ _ a1
    rw [hf] at c1 c2
    rcases hcell m l y c h1 h2 with q | q
    · subst q; exact ⟨trivial, fun q => absurd rfl q⟩
    · rw [e] at q
      have := q.shC c1 c2
      exact ⟨this.re, fun _ => this⟩
  refine ⟨ga, ⟨hR.bel, hR.fr, hR.dfr, hR.sz, hR.tm, hR.s0, hR.old, hR.new, hR.own, fun i o hi => ?_, fun i o hi hq => ?_⟩, ?_⟩
  · simp only [St.cal] at hi
    split at hi
    · rename_i o' ho
      injection hi with hi; subst hi
      unfold ansO at ho
      split at ho
      · rename_i hb
        obtain ⟨y, h1, h2⟩ := Option.bind_eq_some_iff.1 ho
        obtain ⟨c, h3, h4⟩ := Option.bind_eq_some_iff.1 h2
        rcases hcell _ _ y c h1 h3 with q | q
        · subst q; cases h4
        · rw [(ansB_inv hb).1] at q
          exact q.ro h4 (hβ i hb).1 (fun _ _ _ _ => (hβ i hb).2)
      · cases ho
    · split at hi
      · rename_i o' ho
        split at hi
        · cases hi
        · rename_i hb
          injection hi with hi; subst hi
          obtain ⟨j, l, y, c, m1, m2, m3, m4⟩ := outO_some ho
          obtain ⟨-, u, u1, u2⟩ := hgv i j l m1
          have hq := RU_at (b8 j y u m2 u1) m3
          rcases hq with q | q
          · subst q; cases m4
          · have q := hmv _ _ _ q (hpu.imp id fun p => (p.2 y (List.mem_of_getElem? m2)).cell m3)
            simp only [Option.map_some, poutG, gvB_of hnk m1] at q
            have e1 : ga.β i = g.β i := by show (if _ then _ else _) = _; rw [if_neg hb]
            have e2 : ga.κ i = g.κ i := by show (if _ then _ else _) = _; rw [if_neg hb]
            rcases u2 with ⟨k, n, u2⟩ | u2
            · obtain ⟨hu, -, -, u3⟩ := u2
              rw [hu] at q
              refine q.ro m4 ?_ fun e k' rows hc => ?_
              · rw [e1]; cases g.β i <;> rfl
              · rw [e2]
                cases hg : g.β i with
                | none => rw [u3 hg]; rfl
                | some b => rfl
            · obtain ⟨b, hb', hu⟩ := u2
              rw [hu] at q
              refine q.ro m4 (by rw [e1, hb']; rfl) fun e k' rows hc => ?_
              subst hc
              cases q
      · split at hi
        · cases hi
        · rename_i hn
          refine hR.ob i o ?_
          simp only [St.sc]
          rw [if_pos (by simp only [Bool.and_eq_true, Bool.not_eq_true']; simp only [not_or, Bool.not_eq_true] at hn; exact hn)]
          exact hi
  · have hna : ansB d i = false := by
      cases hb : ansB d i with
      | false => rfl
      | true => rw [(ansB_inv hb).2] at hq; cases hq
    have e1 : ga.β i = g.β i := by show (if _ then _ else _) = _; rw [if_neg (by rw [hna]; simp)]
    have e2 : ga.κ i = g.κ i := by show (if _ then _ else _) = _; rw [if_neg (by rw [hna]; simp)]
    have hex : ∃ o', σ.b i = some o' := by
      simp only [St.cal] at hi
      split at hi
      · rename_i o' ho
        unfold ansO at ho
        rw [hna] at ho; simp at ho
      · split at hi
        · rename_i o' ho
          obtain ⟨j, l, y, c, m1, -⟩ := outO_some ho
          exact (hgv i j l m1).1
        · split at hi
          · cases hi
          · obtain ⟨o', q, -⟩ := Option.map_eq_some_iff.1 hi; exact ⟨o', q⟩
    obtain ⟨o', ho'⟩ := hex
    rw [e1, e2]; exact hr.par i o' ho' hq
  · have hE : ∀ (m : Nat) (y : D) (u : Value), m < 40 → lenE y = true → compD r m = some y → compV v m = u → RN g' w' m y u → RE ga w' (shE d m y) u := by
      intro m y u hm hly h1 hu hN
      have one : ∀ u', cellD y 0 = some y → cellV u 0 = u' → RE ga w' (shC d m 0 y) u' := fun u' h2 e => (hRC m 0 y y u' hm (by omega) h1 h2 (by rw [hu]; exact e)).1
      cases y with
      | un => trivial
      | ag xs =>
        obtain ⟨us, rfl, n1, n2⟩ := hN
        simp only [lenE, decide_eq_true_eq] at hly
        refine ⟨us, rfl, by rw [shL_len, n1], fun l c z hc hz => ?_⟩
        rw [shL_at, Nat.zero_add] at hc
        obtain ⟨c0, q1, rfl⟩ := Option.map_eq_some_iff.1 hc
        have hl : l < 20 := by have := (List.getElem?_eq_some_iff.1 q1).1; omega
        have hne : c0 ≠ .un := fun e => by subst e; cases n2 l _ z q1 hz
        exact (hRC m l _ c0 z hm hl h1 q1 (by rw [hu]; exact lgetD hz)).2 hne
      | tup _ => cases hly
      | mb _ _ => cases hly
      | _ => simp only [RN] at hN; exact one u rfl (cellV_one hN.one 0)
    cases r with
    | tup xs =>
      obtain ⟨us, rfl, n1, n2⟩ := b7
      simp only [lenT, Bool.and_eq_true, decide_eq_true_eq] at hlen
      refine ⟨us, rfl, by rw [shM_len, n1], fun m y u hy hu => ?_⟩
      rw [shM_at, Nat.zero_add] at hy
      obtain ⟨y0, q1, rfl⟩ := Option.map_eq_some_iff.1 hy
      exact hE m y0 u (by have := (List.getElem?_eq_some_iff.1 q1).1; omega) (List.all_eq_true.1 hlen.2 y0 (List.mem_of_getElem? q1)) q1 (lgetD hu) (n2 m y0 u q1 hu)
    | un => trivial
    | ag xs => exact (hE 0 (.ag xs) v (by omega) hlen rfl (by obtain ⟨us, rfl, -⟩ := b7; rfl) b7).rt
    | mb _ _ => cases hlen
    | _ => simp only [RNs, RN] at b7; simp only [lenT] at hlen; exact (hE 0 _ v (by omega) hlen rfl (compV_one b7.one 0) (by simp only [RN]; exact b7)).rt
end Go.Proofs.Ythkgncddilkmbaa
