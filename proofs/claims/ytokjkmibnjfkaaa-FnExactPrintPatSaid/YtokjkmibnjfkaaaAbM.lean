/- The engine, thirteenth part: code, loops, contracts. -/
import Derived.Test.YtokjkmibnjfkaaaAbL
import Derived.Deep.LoopGhost
namespace Go.Proofs.Ytokjkmibnjfkaaa
set_option linter.unusedVariables false
set_option linter.unusedSimpArgs false
open Go.RowKit
/-- from every state that the frame stands for, the code ends as K says. -/
def AC (P : Program) (N : Nat) (c : Code) (K : Exit → St → Prop) (σ : St) : Prop :=
  ∀ (x : Cx) (g : Gh) (a : Act) (w : World) (Q : Exit → Act → World → Prop), x.P = P → x.N = N → Rel x g σ a w → (∀ e σ' g' a' w', Rel x g' σ' a' w' → K e σ' → Q e a' w') → c.wp P Q a w
def thenK (K' : St → Prop) (K : Exit → St → Prop) : Exit → St → Prop
  | .normal, σ => K' σ
  | e, σ => K e σ
def blockK (id : Nat) (K : Exit → St → Prop) : Exit → St → Prop
  | .exit id', σ => if id' = id then K .normal σ else K (.exit id') σ
  | e, σ => K e σ
section
variable {P : Program} {N : Nat} {K : Exit → St → Prop} {σ : St}
theorem AC_skip (h : K .normal σ) : AC P N .skip K σ := fun x g a w Q _ _ hr hQ => wp_skip (hQ _ _ _ _ _ hr h)
theorem AC_exit {id : Nat} (h : K (.exit id) σ) : AC P N (.exit id) K σ := fun x g a w Q _ _ hr hQ => wp_exit (hQ _ _ _ _ _ hr h)
theorem AC_ret (h : K .ret σ) : AC P N .ret K σ := fun x g a w Q _ _ hr hQ => wp_ret (hQ _ _ _ _ _ hr h)
theorem AC_seq {c d : Code} (h : ∀ K' : St → Prop, (∀ σ, AC P N d K σ → K' σ) → AC P N c (thenK K' K) σ) : AC P N (.seq c d) K σ := by
  intro x g a w Q hx hN hr hQ
  refine wp_seq (h (fun σ => AC P N d K σ) (fun _ h => h) x g a w _ hx hN hr fun e σ' g' a' w' hr' hK => ?_)
  cases e with
  | normal => exact hK x g' a' w' Q hx hN hr' hQ
  | exit id => exact hQ _ _ _ _ _ hr' hK
  | goto l => exact hQ _ _ _ _ _ hr' hK
  | ret => exact hQ _ _ _ _ _ hr' hK
  | panic c => exact hQ _ _ _ _ _ hr' hK
  | outgrown => exact hQ _ _ _ _ _ hr' hK
theorem AC_block {id : Nat} {c : Code} (h : AC P N c (blockK id K) σ) : AC P N (.block id c) K σ := by
  intro x g a w Q hx hN hr hQ
  refine wp_block (h x g a w _ hx hN hr fun e σ' g' a' w' hr' hK => ?_)
  cases e with
  | exit id' =>
    simp only [Exit.inBlock]
    simp only [blockK] at hK
    split
    · rename_i e; rw [if_pos e] at hK; exact hQ _ _ _ _ _ hr' hK
    · rename_i e; rw [if_neg e] at hK; exact hQ _ _ _ _ _ hr' hK
  | normal => exact hQ _ _ _ _ _ hr' hK
  | goto l => exact hQ _ _ _ _ _ hr' hK
  | ret => exact hQ _ _ _ _ _ hr' hK
  | panic c => exact hQ _ _ _ _ _ hr' hK
  | outgrown => exact hQ _ _ _ _ _ hr' hK
theorem AC_cond {z : Operand} {c d : Code} (t : Bool) (hz : ev σ z = .e (.d (.s (.bool t)))) (h1 : t = true → AC P N c K σ) (h2 : t = false → AC P N d K σ) : AC P N (.cond z c d) K σ := by
  intro x g a w Q hx hN hr hQ
  have hv := ev_ok hr z
  rw [hz] at hv
  have hv : a.eval z = .bool t := Rep.s_inv hv
  exact wp_cond_split hv (fun e => h1 e x g a w Q hx hN hr hQ) (fun e => h2 e x g a w Q hx hN hr hQ)
def loopK (J : Nat → St → Prop) (n : Nat) (σ : St) : Prop := ∃ n', n' < n ∧ J n' σ
theorem AC_loop {c : Code} (J : Nat → St → Prop) (n0 : Nat) (h0 : J n0 σ) (round : ∀ n σ, J n σ → ∀ K' : St → Prop, (∀ n' σ', n' < n → J n' σ' → K' σ') → AC P N c (thenK K' K) σ) : AC P N (.loop c) K σ := by
  intro x g a w Q hx hN hr hQ
  refine wp_loop_ghost (fun n a w => ∃ σ g, Rel x g σ a w ∧ J n σ) n0 ⟨σ, g, hr, h0⟩ ?_
  rintro n a w ⟨σ, g, hr, hJ⟩
  refine round n σ hJ (loopK J n) (fun n' σ' h1 h2 => ⟨n', h1, h2⟩) x g a w _ hx hN hr fun e σ' g' a' w' hr' hK => ?_
  cases e with
  | normal =>
    obtain ⟨n', hlt, hJ'⟩ := hK
    exact ⟨n', hlt, σ', g', hr', hJ'⟩
  | exit id => exact hQ _ _ _ _ _ hr' hK
  | goto l => exact hQ _ _ _ _ _ hr' hK
  | ret => exact hQ _ _ _ _ _ hr' hK
  | panic c => exact hQ _ _ _ _ _ hr' hK
  | outgrown => exact hQ _ _ _ _ _ hr' hK
theorem AC_region {id : Nat} {l : List Oper} (hc : chk N l.toArray = true) (h : aops P l.toArray (K .normal) l σ) : AC P N (.region id l.toArray false) K σ := by
  intro x g a w Q hx hN hr hQ
  subst hx hN
  refine wp_region_lit (aops_sound hc (fun σ' g' a' w' hr' hK => hQ _ _ _ _ _ hr' hK) l (fun o ho d hd => ?_) σ g a w hr h)
  obtain ⟨j, hj⟩ := List.mem_iff_getElem?.1 ho
  exact chk_spec hc (j := j) (o := o) (by simpa using hj) hd
theorem Rel.drew {x : Cx} {g : Gh} {a : Act} {w : World} (h : Rel x g σ a w) : Rel x g σ a w.drew :=
  (h.callS (g' := g) (r := .e .un) (v := undef) ((Below.refl w.heap.size w).drew) (fun _ _ _ => Iff.rfl) h.new trivial).1
theorem AC_draw {id : Nat} {l : List Oper} (hm : P.follows .mixedOrders = true) (hB : Region.lexB .any l.toArray = true) (hc : chk N l.toArray = true) (h : aqs P l.toArray (K .normal) l σ) : AC P N (.region id l.toArray true) K σ := by
  intro x g a w Q hx hN hr hQ
  simp only [Region.lexB, Bool.and_eq_true] at hB
  have hl := aLexQ_of_aqs hc l (fun o ho => by
    obtain ⟨j, hj⟩ := List.mem_iff_getElem?.1 ho
    exact ⟨j, by simpa using hj⟩) σ h
  have ha := aAnyQ_lex l 0 (Array.replicate l.toArray.size false) σ (by simp) (by simpa using hB.2) hl
  refine wp_region_any hm ?_
  have := wpAny_of_aAnyQ hx hN (fun σ' g' a' w' hr' hK => hQ _ _ _ _ _ hr' hK) _ _ _ g a w.drew hr.drew ha
  simpa using this
/-! ### seeing less -/
theorem AC_weak {c : Code} {σ' : St} (hw : ∀ (x : Cx) (g : Gh) (a : Act) (w : World), x.P = P → x.N = N → Rel x g σ a w → ∃ g', Rel x g' σ' a w) (h : AC P N c K σ') : AC P N c K σ := by
  intro x g a w Q hx hN hr hQ
  obtain ⟨g', hr'⟩ := hw x g a w hx hN hr
  exact h x g' a w Q hx hN hr' hQ
end
/-- slots may be forgotten, or seen more coarsely. -/
theorem Rel.setT {x : Cx} {g : Gh} {σ : St} {a : Act} {w : World} (h : Rel x g σ a w) (f : Nat → T) (hf : ∀ i v, RT x.B g w (σ.t i) v → RT x.B g w (f i) v) : Rel x g ⟨f, σ.b⟩ a w :=
  ⟨h.below, h.base, h.dfr, h.sz, fun i => hf i _ (h.tm i), h.old, h.new, h.bx, h.binj, h.bt, h.tinj, h.tlt⟩
/-- a nil slice in a slot may be taken for an empty one of the call's own. -/
theorem AC_nil {P : Program} {N : Nat} {K : Exit → St → Prop} {σ : St} {c : Code} (d e k : Nat) (i : Nat) (hi : σ.t i = .e (.d .nil)) (h : AC P N c K ((σ.sc (pNot d) pAll).put (some i) (.e (.own e k [] d)))) (hN : i < N) : AC P N c K σ := by
  refine AC_weak (fun x g a w hx hxN hr => ?_) h
  obtain ⟨g', h1, h2, h3⟩ := hr.nilTok d e k
  have hv : a.tmps.getD i undef = .slice none 0 0 := by
    have := hr.tm i
    rw [hi] at this
    have this : Rep g.S w .nil (a.tmps.getD i undef) := this
    generalize a.tmps.getD i undef = v at this
    cases this; rfl
  have hp := h2.put (y := .e (.own e k [] d)) h3 (some i) (fun d hd => by injection hd with hd; subst hd; rw [hxN]; exact hN)
  have he : a.put (some i) (.slice none 0 0) = a := by
    have hlt : i < a.tmps.size := by rw [hr.sz, hxN]; exact hN
    cases a with
    | mk tmps defers =>
      simp only [Act.put]
      congr 1
      apply Array.ext
      · simp
      · intro j h1 h2
        by_cases e : j = i
        · subst e
          simp only [Array.getElem_setIfInBounds_self]
          rw [Array.getD_eq_getD_getElem?, Array.getElem?_eq_getElem h2] at hv
          exact hv.symm
        · rw [Array.getElem_setIfInBounds_ne (by simpa using h2) (fun q => e q.symm)]
  rw [he] at hp
  exact ⟨g', hp⟩
/-- cells by rows. -/
def chunk (k : Nat) : Nat → List D → List (List D)
  | 0, _ => []
  | n + 1, l => l.take k :: chunk k n (l.drop k)
/-- a variable that is written no more: what it holds is data, its place a pointer to them. -/
def frE (id : Nat) (row : List C) : E → E
  | .bs i k n => if i = id then (if n * k ≤ row.length then .d (.sl k (chunk k n (row.map cD))) else .un) else .bs i k n
  | .bx i off => if i = id then .d (.pt ((row.drop off).map cD)) else .bx i off
  | y => y
def frT (id : Nat) (row : List C) : T → T
  | .e x => .e (frE id row x)
  | .tup xs => .tup (xs.map (frE id row))
  | .mb c x => .mb c (frE id row x)
def St.fr (σ : St) (id : Nat) (row : List C) : St := ⟨fun i => frT id row (σ.t i), fun i => if i = id then none else σ.b i⟩
theorem chunk_len (k : Nat) : ∀ (n : Nat) (l : List D), (chunk k n l).length = n
  | 0, _ => rfl
  | n + 1, l => by simp [chunk, chunk_len k n]
theorem chunk_at (k : Nat) : ∀ (n : Nat) (l : List D) (i : Nat), i < n → (chunk k n l)[i]? = some ((l.drop (i * k)).take k)
  | 0, _, _, h => by omega
  | n + 1, l, 0, _ => by simp [chunk]
  | n + 1, l, i + 1, h => by
    rw [chunk, List.getElem?_cons_succ, chunk_at k n _ i (by omega), List.drop_drop]
    congr 3
    rw [Nat.add_mul]; omega
theorem Rel.freeze {x : Cx} {g : Gh} {σ : St} {a : Act} {w : World} (h : Rel x g σ a w) (id : Nat) (row : List C) (hb : σ.b id = some row) : ∃ g', Rel x g' (σ.fr id row) a w := by
  obtain ⟨b1, b2, ty, us, b3, b4, b5, b6⟩ := h.bx id row hb
  have hlt : g.β id < w.heap.size := by
    rcases Nat.lt_or_ge (g.β id) w.heap.size with q | q
    · exact q
    · rw [Array.getElem?_eq_none q] at b3; cases b3
  have kp : Kp g.S (fun b o => g.S b o ∨ b = g.β id) w w := ⟨fun _ _ q => .inl q, fun _ _ _ => rfl⟩
  have ev : Ev pAll pAll g ⟨g.β, g.τ, fun b o => g.S b o ∨ b = g.β id⟩ w w := by
    refine ⟨kp, fun t _ => ⟨rfl, fun b hb' => ⟨rfl, fun o => ⟨fun q => q.elim (fun q => q) (fun q => ?_), .inl⟩⟩⟩, fun _ _ => rfl⟩
    exact absurd (by rw [hb', q]) (h.bt id t (by rw [hb]; rfl))
  have hid : ∀ y : E, scE pAll pAll y = y := by
    intro y
    cases y <;> simp [scE, pAll, ← pAll.eq_1, scC_all_map]
  have hE : ∀ y v, RE x.B g w y v → RE x.B ⟨g.β, g.τ, fun b o => g.S b o ∨ b = g.β id⟩ w (frE id row y) v := by
    intro y v hy
    have h0 := RE.ev ev hy
    rw [hid] at h0
    cases y with
    | bx i off =>
      simp only [frE]
      split
      · rename_i e
        subst e
        have hy : v = .pointer (some ⟨g.β i, off, none⟩) := hy
        subst hy
        have hd := (b5 : us.length = row.length)
        refine Rep.pt (fun j => us.getD (off + j) undef) (fun j d hj => ⟨.inr rfl, ?_⟩) (fun j d hj => ?_)
        · rw [List.getElem?_map, List.getElem?_drop] at hj
          cases hr : row[off + j]? with
          | none => rw [hr] at hj; cases hj
          | some c =>
            have hl : off + j < us.length := by rw [hd]; exact (List.getElem?_eq_some_iff.1 hr).1
            rw [getD_of (List.getElem?_eq_getElem hl)]
            simp only [World.cell?, b3]
            rw [if_neg (by simp)]
            simp [List.getElem?_eq_getElem hl]
        · rw [List.getElem?_map, List.getElem?_drop] at hj
          cases hr : row[off + j]? with
          | none => rw [hr] at hj; cases hj
          | some c =>
            rw [hr] at hj
            injection hj with hj
            subst hj
            have hl : off + j < us.length := by rw [hd]; exact (List.getElem?_eq_some_iff.1 hr).1
            rw [getD_of (List.getElem?_eq_getElem hl)]
            exact (cD_ok (b6 _ c _ hr (List.getElem?_eq_getElem hl))).mono kp
      · exact h0
    | bs i k n =>
      simp only [frE]
      split
      · rename_i e
        subst e
        split
        · rename_i hle
          obtain ⟨rfl, hn⟩ := hy
          have hd := (b5 : us.length = row.length)
          have hcl := chunk_len k n (row.map cD)
          have hat : ∀ (q j : Nat) (r : List D) (d : D), (chunk k n (row.map cD))[q]? = some r → r[j]? = some d → ∃ c, row[q * k + j]? = some c ∧ d = cD c := by
            intro q j r d hq hj
            have hqn : q < n := by rw [← hcl]; exact (List.getElem?_eq_some_iff.1 hq).1
            rw [chunk_at k n _ q hqn] at hq
            injection hq with hq
            subst hq
            rw [List.getElem?_take] at hj
            split at hj
            · rw [List.getElem?_drop, List.getElem?_map] at hj
              cases hr : row[q * k + j]? with
              | none => rw [hr] at hj; cases hj
              | some c => rw [hr] at hj; injection hj with hj; exact ⟨c, rfl, hj.symm⟩
            · cases hj
          have hrep : Rep (fun b o => g.S b o ∨ b = g.β i) w (.sl k (chunk k n (row.map cD))) (.slice (some ⟨g.β i, 0, none⟩) (chunk k n (row.map cD)).length n) := by
            refine Rep.sl (fun q j => us.getD (q * k + j) undef) (by rw [hcl]; exact Nat.le_refl _) hn (fun q r hq => ?_) (fun q j r d hq hj => ⟨.inr rfl, ?_⟩) (fun q j r d hq hj => ?_)
            · have hqn : q < n := by rw [← hcl]; exact (List.getElem?_eq_some_iff.1 hq).1
              rw [chunk_at k n _ q hqn] at hq
              injection hq with hq
              subst hq
              have : (q + 1) * k ≤ n * k := Nat.mul_le_mul_right _ hqn
              rw [Nat.add_mul, Nat.one_mul] at this
              simp only [List.length_take, List.length_drop, List.length_map]
              omega
            · obtain ⟨c, hc, -⟩ := hat q j r d hq hj
              have hl : q * k + j < us.length := by rw [hd]; exact (List.getElem?_eq_some_iff.1 hc).1
              rw [getD_of (List.getElem?_eq_getElem hl)]
              simp only [World.cell?, b3, Nat.zero_add]
              rw [if_neg (by simp)]
              simp [List.getElem?_eq_getElem hl]
            · obtain ⟨c, hc, rfl⟩ := hat q j r d hq hj
              have hl : q * k + j < us.length := by rw [hd]; exact (List.getElem?_eq_some_iff.1 hc).1
              rw [getD_of (List.getElem?_eq_getElem hl)]
              exact (cD_ok (b6 _ c _ hc (List.getElem?_eq_getElem hl))).mono kp
          rw [hcl] at hrep
          exact hrep
        · trivial
      · exact h0
    | d _ => exact h0
    | own _ _ _ _ => exact h0
    | ag _ => exact h0
    | un => trivial
  refine ⟨⟨g.β, g.τ, fun b o => g.S b o ∨ b = g.β id⟩, h.below, h.base, h.dfr, h.sz, fun i => ?_, fun b o hlt' => ?_, fun b o q => ?_, fun i r hr => ?_, fun i j hi hj => ?_, fun i tok hi => ?_, h.tinj, h.tlt⟩
  · have hi := h.tm i
    show RT _ _ _ (frT id row (σ.t i)) _
    generalize σ.t i = y at hi
    cases y with
    | e y => exact hE y _ hi
    | tup xs =>
      obtain ⟨vs, hv, v1, v2⟩ := hi
      refine ⟨vs, hv, by simp [v1], fun j y u hy hu => ?_⟩
      rw [List.getElem?_map] at hy
      cases hj : xs[j]? with
      | none => rw [hj] at hy; cases hy
      | some z => rw [hj] at hy; injection hy with hy; subst hy; exact hE z u (v2 j z u hj hu)
    | mb c y => exact ⟨fun hc => hE y _ (hi.1 hc), hi.2⟩
  · rw [← h.old b o hlt']
    exact ⟨fun q => q.elim (fun q => q) (fun q => by omega), .inl⟩
  · rcases q with q | q
    · exact h.new b o q
    · omega
  · simp only [St.fr] at hr
    split at hr
    · cases hr
    · rename_i e
      obtain ⟨c1, c2, ty', vs, c3, c4, c5⟩ := h.bx i r hr
      have hne : g.β i ≠ g.β id := fun q => e (h.binj i id (by rw [hr]; rfl) (by rw [hb]; rfl) q)
      have hev := c5.ev ev
      rw [scC_all_map] at hev
      exact ⟨c1, fun o q => q.elim (c2 o) hne, ty', vs, c3, c4, hev⟩
  · have key : ∀ i, ((σ.fr id row).b i).isSome → (σ.b i).isSome := by
      intro i hi
      simp only [St.fr] at hi
      split at hi
      · cases hi
      · exact hi
    exact h.binj i j (key i hi) (key j hj)
  · refine h.bt i tok ?_
    simp only [St.fr] at hi
    split at hi
    · cases hi
    · exact hi
theorem AC_fr {P : Program} {N : Nat} {K : Exit → St → Prop} {σ : St} {c : Code} (id : Nat) (row : List C) (hb : σ.b id = some row) (h : AC P N c K (σ.fr id row)) : AC P N c K σ :=
  AC_weak (fun x g a w _ _ hr => hr.freeze id row hb) h
/-! ### the answer -/
def posT : List Nat → Nat → Option Nat
  | [], _ => none
  | u :: l, t => if t = u then some 0 else (posT l t).map (· + 1)
theorem posT_some : ∀ (l : List Nat) (t i : Nat), posT l t = some i → l[i]? = some t
  | [], _, _, h => by cases h
  | u :: l, t, i, h => by
    unfold posT at h
    split at h
    · rename_i e; injection h with h; subst h e; rfl
    · obtain ⟨j, hj, rfl⟩ := Option.map_eq_some_iff.1 h
      simpa using posT_some l t j hj
def cnC (l : List Nat) : C → C
  | .d x => .d x
  | .own e k rows t => match posT l t with
    | some i => .own e k rows i
    | none => .d (.sl k rows)
def cnE (l : List Nat) : E → E
  | .d x => .d x
  | .own e k rows t => match posT l t with
    | some i => .own e k rows i
    | none => .d (.sl k rows)
  | .ag xs => .ag (xs.map (cnC l))
  | _ => .un
def cnT (l : List Nat) : T → T
  | .e x => .e (cnE l x)
  | .tup xs => .tup (xs.map (cnE l))
  | .mb c x => .mb c (cnE l x)
theorem cnE_ok {B : Nat} {g : Gh} {w : World} (l : List Nat) {y : E} {v : Value} (h : RE B g w y v) : RE B ⟨g.β, fun i => (l[i]?).bind g.τ, g.S⟩ w (cnE l y) v := by
  have hO : ∀ e k rows t i v, posT l t = some i → OwnR B g w e k rows t v → OwnR B ⟨g.β, fun i => (l[i]?).bind g.τ, g.S⟩ w e k rows i v := by
    intro e k rows t i v hp ho
    obtain ⟨xs, o1, o2, o3⟩ := ho
    refine ⟨xs, o1, ?_, o3⟩
    rw [o2]
    simp only [posT_some l t i hp, Option.bind_some]
  have hC : ∀ y v, RC B g w y v → RC B ⟨g.β, fun i => (l[i]?).bind g.τ, g.S⟩ w (cnC l y) v := by
    intro y v hy
    cases y with
    | d x => exact hy
    | own e k rows t =>
      simp only [cnC]
      split
      · rename_i i hp; exact hO e k rows t i v hp hy
      · exact OwnR.rep (g := g) (tok := t) (e := e) hy
  cases y with
  | d x => exact h
  | own e k rows t =>
    simp only [cnE]
    split
    · rename_i i hp; exact hO e k rows t i v hp h
    · exact OwnR.rep (g := g) (tok := t) (e := e) h
  | bx i o => trivial
  | bs i k n => trivial
  | ag xs =>
    obtain ⟨us, rfl, hus⟩ := h
    refine ⟨us, rfl, by simp [hus.1], fun j y u hy hu => ?_⟩
    rw [List.getElem?_map] at hy
    cases hj : xs[j]? with
    | none => rw [hj] at hy; cases hy
    | some z => rw [hj] at hy; injection hy with hy; subst hy; exact hC z u (hus.2 j z u hj hu)
  | un => trivial
theorem cnT_ok {B : Nat} {g : Gh} {w : World} (l : List Nat) {y : T} {v : Value} (h : RT B g w y v) : RT B ⟨g.β, fun i => (l[i]?).bind g.τ, g.S⟩ w (cnT l y) v := by
  cases y with
  | e x => exact cnE_ok l h
  | tup xs =>
    obtain ⟨us, rfl, h1, h2⟩ := h
    refine ⟨us, rfl, by simp [h1], fun j y u hy hu => ?_⟩
    rw [List.getElem?_map] at hy
    cases hj : xs[j]? with
    | none => rw [hj] at hy; cases hy
    | some z => rw [hj] at hy; injection hy with hy; subst hy; exact cnE_ok l (h2 j z u hj hu)
  | mb c x => exact ⟨fun hc => cnE_ok l (h.1 hc), h.2⟩
def aRv (P : Program) (σ : St) : ResultVar → Option (Prop × E)
  | .tmp t => some (oblT (σ.t t), bodyT (σ.t t))
  | .cell t ty => match aLoad P σ ty (bodyT (σ.t t)) with
    | some (ob, y) => some (oblT (σ.t t) ∧ ob, y)
    | none => none
def aRvs (P : Program) (σ : St) : List ResultVar → Option (Prop × List E)
  | [] => some (True, [])
  | r :: l => match aRv P σ r, aRvs P σ l with
    | some (ob, y), some (ob', ys) => some (ob ∧ ob', y :: ys)
    | _, _ => none
def mkRes : List E → T
  | [y] => .e y
  | ys => .tup ys
def rvS (tmps : Array Value) : ResultVar → Sem Value
  | .tmp t => pure (tmps.getD t undef)
  | .cell p t => do loadVar t (← asAddr (tmps.getD p undef))
theorem results_eq (fn : Func) (tmps : Array Value) : results fn tmps = (do let vs ← fn.results.mapM (rvS tmps); pure (if h : vs.size = 1 then vs[0] else .tuple vs)) := by
  unfold results
  congr 1
theorem aRv_ok {x : Cx} {g : Gh} {σ : St} {a : Act} {w : World} (hr : Rel x g σ a w) {rv : ResultVar} {ob : Prop} {y : E} (h : aRv x.P σ rv = some (ob, y)) (ho : ob) :
    ∃ v, (rvS a.tmps rv).run x.P w = .ok v w ∧ RE x.B g w y v := by
  unfold aRv at h
  split at h
  · rename_i t
    injection h with h; injection h with e1 e2
    subst e1 e2
    exact ⟨_, rfl, body_ok (hr.tm t) ho⟩
  · rename_i t ty
    split at h
    · rename_i ob' y' h'
      injection h with h; injection h with e1 e2
      subst e1 e2
      have hb := body_ok (hr.tm t) ho.1
      obtain ⟨r, r1, r2⟩ := aLoad_ok h' ho.2 hr hb
      refine ⟨r, ?_, r2⟩
      have hp : ∃ ad, a.tmps.getD t undef = .pointer (some ad) := by
        generalize a.tmps.getD t undef = v at hb
        unfold aLoad at h'
        split at h'
        · rename_i row hrow
          rw [hrow] at hb
          have hb : Rep g.S w (.pt row) v := hb
          cases hb
          exact ⟨_, rfl⟩
        · rename_i id off hrow
          rw [hrow] at hb
          exact ⟨_, hb⟩
        · cases h'
      obtain ⟨ad, had⟩ := hp
      rw [had] at r1
      simp only [rvS, had, asAddr, Sem.run_bind, Sem.run_pure, Result.andThen_ok]
      simpa [Instr.loadAt, Instr.sureAddr] using r1
    · cases h
theorem aRvs_ok {x : Cx} {g : Gh} {σ : St} {a : Act} {w : World} (hr : Rel x g σ a w) : ∀ (l : List ResultVar) (ob : Prop) (ys : List E), aRvs x.P σ l = some (ob, ys) → ob →
    ∃ vs : List Value, (l.mapM (rvS a.tmps) : Sem (List Value)).run x.P w = .ok vs w ∧ vs.length = ys.length ∧ ∀ (j : Nat) (y : E) (u : Value), ys[j]? = some y → vs[j]? = some u → RE x.B g w y u
  | [], ob, ys, h, ho => by
    injection h with h; injection h with e1 e2
    subst e2
    exact ⟨[], rfl, rfl, fun j y u q => by simp at q⟩
  | r :: l, ob, ys, h, ho => by
    unfold aRvs at h
    split at h
    · rename_i ob1 y1 ob2 ys2 h1 h2
      injection h with h; injection h with e1 e2
      subst e1 e2
      obtain ⟨v, v1, v2⟩ := aRv_ok hr h1 ho.1
      obtain ⟨vs, w1, w2, w3⟩ := aRvs_ok hr l _ _ h2 ho.2
      refine ⟨v :: vs, ?_, by simp [w2], fun j y u q r => ?_⟩
      · rw [List.mapM_cons, Sem.run_bind, v1]
        simp only [Result.andThen_ok, Sem.run_bind, w1, Sem.run_pure]
      · cases j with
        | zero => simp at q r; subst q r; exact v2
        | succ j => exact w3 j y u (by simpa using q) (by simpa using r)
    · cases h
/-- how a body must end. -/
def retK (P : Program) (rs : List ResultVar) (Rs : T → Prop) : Exit → St → Prop
  | .normal, σ | .ret, σ => ∃ (l : List Nat) (ob : Prop) (ys : List E), aRvs P σ rs = some (ob, ys) ∧ ob ∧ l.Nodup ∧ Rs (cnT l (mkRes ys))
  | _, _ => False
def St.init (as : List A) : St := ⟨fun i => match as[i]? with
  | some (.d x) => .e (.d x)
  | some (.ag xs) => .e (.ag (xs.map .d))
  | none => .e .un, fun _ => none⟩
theorem FCon.intro {P : Program} {f : FuncId} {fn : Func} {c : Code} (hf : P.funcs[f]? = some fn) (hname : (fn.name == "runtime.NumGoroutine") = false) (hb : fn.body = some c) {N : Nat} (hN : fn.ntmps = N) {rs : List ResultVar} (hrs : fn.results = rs.toArray) {as : List A} (hlen : as.length ≤ N) {Rs : T → Prop}
    (h : AC P N c (retK P rs Rs) (St.init as)) : FCon P f as Rs := by
  refine ⟨fun vs w => ?_, fun w S vs hS hl hv => calls_of_wp hf hb ?_⟩
  · have hname' : ¬ fn.name = "runtime.NumGoroutine" := by simpa using hname
    have hbn : ¬ fn.body = none := by rw [hb]; simp
    simp [callFunc, hf, hname', hbn]
  · refine h ⟨P, N, w.heap.size, S, w⟩ ⟨fun _ => 0, fun _ => none, S⟩ _ w _ rfl rfl ?_ ?_
    · refine ⟨Below.refl _ _, Nat.le_refl _, rfl, by simp [hN, hl]; omega, fun i => ?_, fun _ _ _ => Iff.rfl, hS, fun id row q => (by cases q), fun i j q => (by cases q), fun i tok q => (by cases q), fun i j b q => (by cases q), fun i b q => (by cases q)⟩
      simp only [St.init]
      cases ha : as[i]? with
      | none => trivial
      | some b =>
        have hlt : i < vs.length := by rw [hl]; exact (List.getElem?_eq_some_iff.1 ha).1
        have hg : (vs.toArray ++ Array.replicate (fn.ntmps - vs.toArray.size) undef).getD i undef = vs[i] := by
          rw [Array.getD_eq_getD_getElem?, Array.getElem?_append_left (by simpa using hlt)]
          simp [List.getElem?_eq_getElem hlt]
        have hri := hv i b vs[i] ha (List.getElem?_eq_getElem hlt)
        rw [hg]
        cases b with
        | d x => exact hri
        | ag xs =>
          obtain ⟨us, hu, hus⟩ := hri
          exact ⟨us, hu, RCs.ofD hus⟩
    · intro e σ' g' a' w' hr' hK
      have key : (∃ (l : List Nat) (ob : Prop) (ys : List E), aRvs P σ' rs = some (ob, ys) ∧ ob ∧ l.Nodup ∧ Rs (cnT l (mkRes ys))) → a'.defers = [] ∧ ∃ v, (results fn a'.tmps).run P w' = .ok v w' ∧
          (∃ v' g' r, Ending.returned v = .returned v' ∧ Below w.heap.size w w' ∧ (∀ b o, b < w.heap.size → (Gh.S g' b o ↔ S b o)) ∧ (∀ b o, g'.S b o → b < w'.heap.size) ∧ (∀ i j b, g'.τ i = some b → g'.τ j = some b → i = j) ∧ (∀ i b, g'.τ i = some b → w.heap.size ≤ b ∧ b < w'.heap.size) ∧ Rs r ∧ RT w.heap.size g' w' r v') := by
        rintro ⟨l, ob, ys, h1, ho, hnd, hR⟩
        obtain ⟨vs', w1, w2, w3⟩ := aRvs_ok hr' _ _ _ h1 ho
        have hRT : ∃ v, (results fn a'.tmps).run P w' = .ok v w' ∧ RT w.heap.size g' w' (mkRes ys) v := by
          rw [results_eq, Array.mapM_eq_mapM_toList]
          have w1 : (List.mapM (rvS a'.tmps) fn.results.toList).run P w' = .ok vs' w' := by rw [hrs]; exact w1
          simp only [Sem.run_bind, Sem.run_map, w1, Result.andThen_ok, Sem.run_pure]
          cases ys with
          | nil =>
            have : vs' = [] := List.eq_nil_of_length_eq_zero (by simpa using w2)
            subst this
            exact ⟨_, rfl, [], rfl, rfl, fun j y u q => by simp at q⟩
          | cons y ys =>
            cases ys with
            | nil =>
              cases vs' with
              | nil => simp at w2
              | cons v vs'' =>
                have : vs'' = [] := List.eq_nil_of_length_eq_zero (by simpa using w2)
                subst this
                exact ⟨_, by simp, w3 0 y v rfl rfl⟩
            | cons z zs =>
              refine ⟨.tuple vs'.toArray, ?_, vs', rfl, w2, w3⟩
              have : ¬ vs'.toArray.size = 1 := by simp [w2]
              simp [w2]
        obtain ⟨v, v1, v2⟩ := hRT
        refine ⟨hr'.dfr, v, v1, v, ⟨g'.β, fun i => (l[i]?).bind g'.τ, g'.S⟩, _, rfl, hr'.below, hr'.old, hr'.new, fun i j b hi hj => ?_, fun i b hi => ?_, hR, cnT_ok l v2⟩
        · simp only at hi hj
          obtain ⟨t1, q1, q2⟩ := Option.bind_eq_some_iff.1 hi
          obtain ⟨t2, q3, q4⟩ := Option.bind_eq_some_iff.1 hj
          have := hr'.tinj t1 t2 b q2 q4
          subst this
          obtain ⟨l1, e1⟩ := List.getElem?_eq_some_iff.1 q1
          obtain ⟨l2, e2⟩ := List.getElem?_eq_some_iff.1 q3
          exact (List.getElem_inj hnd).1 (e1.trans e2.symm)
        · simp only at hi
          obtain ⟨t1, q1, q2⟩ := Option.bind_eq_some_iff.1 hi
          exact hr'.tlt t1 b q2
      cases e with
      | normal => exact key hK
      | ret => exact key hK
      | exit id => exact hK.elim
      | goto l => exact hK.elim
      | panic c => exact hK.elim
      | outgrown => exact hK.elim
end Go.Proofs.Ytokjkmibnjfkaaa
