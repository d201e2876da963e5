/- The engine, tenth part: calls, contracts, and a region's operations in the order of the text. -/
import Derived.Test.YtokjkmibnjfkaaaAbI
namespace Go.Proofs.Ytokjkmibnjfkaaa
set_option linter.unusedVariables false
set_option linter.unusedSimpArgs false
open Go.RowKit
/-- an argument. -/
inductive A where
  | d (x : D)
  | ag (xs : List D)
def RA (S : Seal) (w : World) : A → Value → Prop
  | .d x, v => Rep S w x v
  | .ag xs, v => ∃ us : List Value, v = .agg us.toArray ∧ RepL S w xs us
def argE : E → Option A
  | .d x => some (.d x)
  | .own _ k rows _ => some (.d (.sl k rows))
  | .ag xs => some (.ag (xs.map cD))
  | _ => none
theorem RCs.toD {B : Nat} {g : Gh} {w : World} {ys : List C} {us : List Value} (h : RCs B g w ys us) : RepL g.S w (ys.map cD) us := by
  refine ⟨by simp [h.1], fun j d u hd hu => ?_⟩
  rw [List.getElem?_map] at hd
  cases hy : ys[j]? with
  | none => rw [hy] at hd; cases hd
  | some c => rw [hy] at hd; injection hd with hd; subst hd; exact cD_ok (h.2 j c u hy hu)
theorem argE_ok {y : E} {b : A} (h : argE y = some b) {B : Nat} {g : Gh} {w : World} {v : Value} (hv : RE B g w y v) : RA g.S w b v := by
  unfold argE at h
  split at h
  · injection h with h; subst h; exact hv
  · injection h with h; subst h; exact OwnR.rep hv
  · injection h with h; subst h
    obtain ⟨us, rfl, hus⟩ := hv
    exact ⟨us, rfl, hus.toD⟩
  · cases h
/-- what a function does of which nothing but the answer is seen: arguments as data, what holds of the answer. -/
structure FCon (P : Program) (f : FuncId) (args : List A) (Rs : T → Prop) : Prop where
  ent : ∀ vs w, (callFunc f vs).run P w = .ok (.enter f vs) w
  run : ∀ (w : World) (S : Seal) (vs : List Value), (∀ b o, S b o → b < w.heap.size) → vs.length = args.length → (∀ (j : Nat) (b : A) (u : Value), args[j]? = some b → vs[j]? = some u → RA S w b u) →
    Calls P f vs.toArray w (fun e w' => ∃ v g' r, e = .returned v ∧ Below w.heap.size w w' ∧ (∀ b o, b < w.heap.size → (Gh.S g' b o ↔ S b o)) ∧ (∀ b o, g'.S b o → b < w'.heap.size) ∧
      (∀ i j b, g'.τ i = some b → g'.τ j = some b → i = j) ∧ (∀ i b, g'.τ i = some b → w.heap.size ≤ b ∧ b < w'.heap.size) ∧ Rs r ∧ RT w.heap.size g' w' r v)
theorem FCon.mono {P : Program} {f : FuncId} {args : List A} {Rs Rs' : T → Prop} (h : FCon P f args Rs) (hr : ∀ r, Rs r → Rs' r) : FCon P f args Rs' := by
  refine ⟨h.ent, fun w S vs h1 h2 h3 => (h.run w S vs h1 h2 h3).mono ?_⟩
  rintro e w' ⟨v, g', r, a1, a2, a3, a4, a5, a6, a7, a8⟩
  exact ⟨v, g', r, a1, a2, a3, a4, a5, a6, hr r a7, a8⟩
/-- the answer's own slices get names of the call's place. -/
def rnC (d : Nat) : C → C
  | .d x => .d x
  | .own e k rows t => .own e k rows (1000 * (t + 1) + d)
def rnE (d : Nat) : E → E
  | .d x => .d x
  | .own e k rows t => .own e k rows (1000 * (t + 1) + d)
  | .bx _ _ => .un
  | .bs _ _ _ => .un
  | .ag xs => .ag (xs.map (rnC d))
  | .un => .un
def rnT (d : Nat) : T → T
  | .e x => .e (rnE d x)
  | .tup xs => .tup (xs.map (rnE d))
  | .mb c x => .mb c (rnE d x)
def pMod (d : Nat) : Nat → Bool := fun i => i % 1000 != d
/-- the answer sealed. -/
def slE : E → E
  | .d x => .d x
  | .own _ k rows _ => .d (.sl k rows)
  | .bx _ _ => .un
  | .bs _ _ _ => .un
  | .ag xs => .ag (xs.map fun y => .d (cD y))
  | .un => .un
def slT : T → T
  | .e x => .e (slE x)
  | .tup xs => .tup (xs.map slE)
  | .mb c x => .mb c (slE x)
theorem OwnR.base {B B' : Nat} {g : Gh} {w : World} {e k : Nat} {rows : List (List D)} {tok : Nat} {v : Value} (h : OwnR B g w e k rows tok v) (hB : B' ≤ B) : OwnR B' g w e k rows tok v := by
  obtain ⟨xs, h1, h2⟩ := h
  exact ⟨xs, ⟨h1.1, h1.2.imp id fun ⟨b, cap, cur, hv, hb, r⟩ => ⟨b, cap, cur, hv, by omega, r⟩⟩, h2⟩
section
variable {x : Cx} {g g' : Gh} {σ : St} {a : Act} {w w' : World}
/-- behind a call: the answer sealed. -/
theorem Rel.callS (h : Rel x g σ a w) (hb : Below w.heap.size w w') (hS : ∀ b o, b < w.heap.size → (g'.S b o ↔ g.S b o)) (hn : ∀ b o, g'.S b o → b < w'.heap.size) {r : T} {v : Value} (hr : RT w.heap.size g' w' r v) :
    Rel x ⟨g.β, g.τ, g'.S⟩ σ a w' ∧ RT x.B ⟨g.β, g.τ, g'.S⟩ w' (slT r) v := by
  have kp : Kp g.S g'.S w w' := ⟨fun b o q => (hS b o (h.new b o q)).2 q, fun b o q => hb.cell (p := ⟨b, o, none⟩) (h.new b o q)⟩
  have ev : Ev pAll pAll g ⟨g.β, g.τ, g'.S⟩ w w' := ⟨kp, fun t _ => ⟨rfl, fun b hb' => ⟨hb.block b (h.tlt t b hb').2, fun o => hS b o (h.tlt t b hb').2⟩⟩, fun _ _ => rfl⟩
  have h1 := h.ev ev (hb.mono h.base) (fun i _ hs => by
    obtain ⟨row, hrw⟩ := Option.isSome_iff_exists.1 hs
    obtain ⟨b1, b2, ty, us, hh, -⟩ := h.bx i row hrw
    have hlt : g.β i < w.heap.size := by
      rcases Nat.lt_or_ge (g.β i) w.heap.size with q | q
      · exact q
      · rw [Array.getElem?_eq_none q] at hh; cases hh
    exact ⟨hb.block _ hlt, fun o q => b2 o ((hS _ o hlt).1 q), fun t => h.bt i t hs⟩) (fun b o q => hS b o (Nat.lt_of_lt_of_le q h.base)) hn h.tinj (fun i b q => ⟨(h.tlt i b q).1, Nat.lt_of_lt_of_le (h.tlt i b q).2 hb.size⟩)
  have hid : σ.sc pAll pAll = σ := by
    have he : ∀ y, scE pAll pAll y = y := by
      intro y
      cases y <;> simp [scE, pAll, ← pAll.eq_1, scC_all_map]
    unfold St.sc
    cases σ with
    | mk t b =>
      congr 1
      · funext i
        show scT pAll pAll (t i) = t i
        cases t i <;> simp [scT, he, List.map_id'']
      · funext i
        simp only [pAll, if_true]
        cases hb0 : b i with
        | none => rfl
        | some row => simp only [Option.map_some]; congr 1; exact scC_all_map row
  rw [hid] at h1
  refine ⟨h1, ?_⟩
  have key : ∀ y v, RE w.heap.size g' w' y v → RE x.B ⟨g.β, g.τ, g'.S⟩ w' (slE y) v := by
    intro y v hy
    cases y with
    | d z => exact hy
    | own e k rows t =>
      have hy : OwnR w.heap.size g' w' e k rows t v := hy
      show Rep g'.S w' (.sl k rows) v
      exact hy.rep
    | bx i o => trivial
    | bs i k n => trivial
    | ag xs =>
      obtain ⟨us, rfl, hus⟩ := hy
      refine ⟨us, rfl, ?_⟩
      have := RCs.ofD (B := x.B) (g := ⟨g.β, g.τ, g'.S⟩) hus.toD
      rwa [List.map_map] at this
    | un => trivial
  cases r with
  | e y => exact key y v hr
  | tup xs =>
    obtain ⟨us, rfl, h1, h2⟩ := hr
    refine ⟨us, rfl, by simp [h1], fun j y u hy hu => ?_⟩
    rw [List.getElem?_map] at hy
    cases hj : xs[j]? with
    | none => rw [hj] at hy; cases hy
    | some z => rw [hj] at hy; injection hy with hy; subst hy; exact key z u (h2 j z u hj hu)
  | mb c y => exact ⟨fun hc => key y v (hr.1 hc), hr.2⟩
/-- behind a call: the answer's own slices are the caller's own. -/
theorem Rel.callR (h : Rel x g σ a w) (hb : Below w.heap.size w w') (hS : ∀ b o, b < w.heap.size → (g'.S b o ↔ g.S b o)) (hn : ∀ b o, g'.S b o → b < w'.heap.size)
    (hti : ∀ i j b, g'.τ i = some b → g'.τ j = some b → i = j) (htl : ∀ i b, g'.τ i = some b → w.heap.size ≤ b ∧ b < w'.heap.size) (d : Nat) (hd : d < 1000) {r : T} {v : Value} (hr : RT w.heap.size g' w' r v) :
    ∃ g2, Rel x g2 (σ.sc (pMod d) pAll) a w' ∧ RT x.B g2 w' (rnT d r) v := by
  have kp : Kp g.S g'.S w w' := ⟨fun b o q => (hS b o (h.new b o q)).2 q, fun b o q => hb.cell (p := ⟨b, o, none⟩) (h.new b o q)⟩
  have ev : Ev (pMod d) pAll g ⟨g.β, fun t => if t % 1000 = d then (if 1000 ≤ t then g'.τ (t / 1000 - 1) else none) else g.τ t, g'.S⟩ w w' := by
    refine ⟨kp, fun t ht => ⟨?_, fun b hb' => ⟨hb.block b (h.tlt t b hb').2, fun o => hS b o (h.tlt t b hb').2⟩⟩, fun _ _ => rfl⟩
    simp only [pMod, bne_iff_ne, ne_eq] at ht
    simp [ht]
  have hnew : ∀ t b, t % 1000 = d → (if 1000 ≤ t then g'.τ (t / 1000 - 1) else none) = some b → 1000 ≤ t ∧ g'.τ (t / 1000 - 1) = some b := by
    intro t b _ q
    split at q
    · exact ⟨by assumption, q⟩
    · cases q
  refine ⟨_, h.ev ev (hb.mono h.base) (fun i _ hs => ?_) (fun b o q => hS b o (Nat.lt_of_lt_of_le q h.base)) hn (fun i j b hi hj => ?_) (fun i b hi => ?_), ?_⟩
  · obtain ⟨row, hrw⟩ := Option.isSome_iff_exists.1 hs
    obtain ⟨b1, b2, ty, us, hh, -⟩ := h.bx i row hrw
    have hlt : g.β i < w.heap.size := by
      rcases Nat.lt_or_ge (g.β i) w.heap.size with q | q
      · exact q
      · rw [Array.getElem?_eq_none q] at hh; cases hh
    refine ⟨hb.block _ hlt, fun o q => b2 o ((hS _ o hlt).1 q), fun t q => ?_⟩
    simp only at q
    split at q
    · rename_i ht
      have := (htl _ _ (hnew t _ ht q).2).1
      omega
    · exact h.bt i t hs q
  · simp only at hi hj
    split at hi <;> split at hj
    · rename_i h1 h2
      obtain ⟨p1, p2⟩ := hnew i b h1 hi
      obtain ⟨p3, p4⟩ := hnew j b h2 hj
      have := hti _ _ b p2 p4
      omega
    · rename_i h1 h2
      have := (htl _ _ (hnew i b h1 hi).2).1
      have := (h.tlt j b hj).2
      omega
    · rename_i h1 h2
      have := (htl _ _ (hnew j b h2 hj).2).1
      have := (h.tlt i b hi).2
      omega
    · exact h.tinj i j b hi hj
  · simp only at hi
    split at hi
    · rename_i h1
      have := htl _ _ (hnew i b h1 hi).2
      have := h.base
      omega
    · have := h.tlt i b hi
      have := hb.size
      omega
  · have htok : ∀ t, (if (1000 * (t + 1) + d) % 1000 = d then (if 1000 ≤ 1000 * (t + 1) + d then g'.τ ((1000 * (t + 1) + d) / 1000 - 1) else none) else g.τ (1000 * (t + 1) + d)) = g'.τ t := by
      intro t
      rw [if_pos (by omega), if_pos (by omega), show (1000 * (t + 1) + d) / 1000 - 1 = t by omega]
    have keyO : ∀ e k rows t v, OwnR w.heap.size g' w' e k rows t v → OwnR x.B ⟨g.β, fun t => if t % 1000 = d then (if 1000 ≤ t then g'.τ (t / 1000 - 1) else none) else g.τ t, g'.S⟩ w' e k rows (1000 * (t + 1) + d) v := by
      intro e k rows t v ho
      obtain ⟨xs, o1, o2, o3⟩ := ho.base h.base
      exact ⟨xs, o1, by rw [o2]; exact (htok t).symm, o3⟩
    have keyC : ∀ y v, RC w.heap.size g' w' y v → RC x.B ⟨g.β, fun t => if t % 1000 = d then (if 1000 ≤ t then g'.τ (t / 1000 - 1) else none) else g.τ t, g'.S⟩ w' (rnC d y) v := by
      intro y v hy
      cases y with
      | d z => exact hy
      | own e k rows t => exact keyO e k rows t v hy
    have key : ∀ y v, RE w.heap.size g' w' y v → RE x.B ⟨g.β, fun t => if t % 1000 = d then (if 1000 ≤ t then g'.τ (t / 1000 - 1) else none) else g.τ t, g'.S⟩ w' (rnE d y) v := by
      intro y v hy
      cases y with
      | d z => exact hy
      | own e k rows t => exact keyO e k rows t v hy
      | bx i o => trivial
      | bs i k n => trivial
      | ag xs =>
        obtain ⟨us, rfl, hus⟩ := hy
        refine ⟨us, rfl, by simp [hus.1], fun j y u hy hu => ?_⟩
        rw [List.getElem?_map] at hy
        cases hj : xs[j]? with
        | none => rw [hj] at hy; cases hy
        | some z => rw [hj] at hy; injection hy with hy; subst hy; exact keyC z u (hus.2 j z u hj hu)
      | un => trivial
    cases r with
    | e y => exact key y v hr
    | tup xs =>
      obtain ⟨us, rfl, h1, h2⟩ := hr
      refine ⟨us, rfl, by simp [h1], fun j y u hy hu => ?_⟩
      rw [List.getElem?_map] at hy
      cases hj : xs[j]? with
      | none => rw [hj] at hy; cases hy
      | some z => rw [hj] at hy; injection hy with hy; subst hy; exact key z u (h2 j z u hj hu)
    | mb c y => exact ⟨fun hc => key y v (hr.1 hc), hr.2⟩
end
end Go.Proofs.Ytokjkmibnjfkaaa
