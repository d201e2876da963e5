import Derived.Test.YthkgncddilkmbaaGv
/- The second engine: a contract's answer, frozen for good. -/
namespace Go.Proofs.Ythkgncddilkmbaa
set_option linter.unusedVariables false
set_option linter.unusedSimpArgs false
open Go.RowKit
theorem Und.up_some {up : Nat → Option Pos} {R : Nat → Prop} {b : Nat} (h : Und up R b) : up b ≠ none := by
  cases h with
  | root h _ => rw [h]; simp
  | cell h _ => rw [h]; simp
theorem Rep.rn {g : Gh} {w : World} {m : Nat} {d : D} {v : Value} (h : Rep g.S g.up w none d v) : RN g w m d v := by
  cases d with
  | un => trivial
  | ag _ => cases h
  | _ => exact h.any _
theorem RN.rns {g : Gh} {w : World} {d : D} {v : Value} (h : RN g w 0 d v) (ht : ∀ xs, d ≠ .tup xs) : RNs g w d v := by
  cases d with
  | tup xs => exact absurd rfl (ht xs)
  | _ => exact h
open Classical in
theorem FCon.frz {P : Program} {f : FuncId} {args : List D} {Rs : D → List D → Prop} (h : FCon P f args Rs) : FCon P f args (fun r o => ∃ r0, Rs r0 o ∧ r = frA r0) := by
  refine ⟨h.ent, fun w g vs h1 h2 h3 h4 => (h.run w g vs h1 h2 h3 h4).mono ?_⟩
  rintro e w' ⟨v, g', r, o, a1, a2, a3, a4, a5, a6, a7, a8, a9, a10⟩
  let π : Pos → Pos := fun p => match p with
    | .cell b o => .cell b o
    | .ans _ _ => .root 0
    | _ => .root 1
  let up1 : Nat → Option Pos := fun b => (g'.up b).map π
  let Rb : Nat → Prop := fun i => i = 0
  let ga : Gh := ⟨g'.β, g'.κ, fun b => if Und up1 Rb b then none else g'.up b, fun b => g'.S b ∨ Und up1 Rb b⟩
  have hund : ∀ b, Und up1 Rb b → g'.up b ≠ none := fun b q e => q.up_some (by show (g'.up b).map π = none; rw [e]; rfl)
  let Ok : Pos → Prop := fun p => match p with
    | .cell b _ => ¬ Und up1 Rb b
    | .ans _ _ => False
    | _ => True
  have hok : ∀ b p, g'.up b = some p → Ok p → ¬ Und up1 Rb b := by
    intro b p hp ho hu
    cases hu with
    | root q r =>
      have q : (g'.up b).map π = some (.root _) := q
      rw [hp, Option.map_some] at q
      injection q with q
      cases p with
      | cell b' o' => cases q
      | ans _ _ => exact ho
      | root _ => injection q with q; subst q; cases r
      | par _ _ => injection q with q; subst q; cases r
    | cell q r =>
      have q : (g'.up b).map π = some (.cell _ _) := q
      rw [hp, Option.map_some] at q
      injection q with q
      cases p with
      | cell b' o' => injection q with q1 q2; subst q1; exact ho r
      | ans _ _ => cases q
      | root _ => cases q
      | par _ _ => cases q
  have mv : Mv Ok (fun p => p) g' ga w' w' := ⟨fun b hb => ⟨.inl hb, rfl⟩, fun b p hb ho => ⟨by show (if Und up1 Rb b then none else g'.up b) = _; rw [if_neg (hok b p hb ho)]; exact hb, rfl⟩, fun b p o hb ho => ⟨hok b p hb ho, rfl⟩⟩
  have key : ∀ (m l : Nat) (c : D) (u : Value), Rep g'.S g'.up w' (some (.ans m l)) c u → Rep ga.S ga.up w' none (Go.Proofs.Ythkgncddilkmbaa.frz c) u := by
    intro m l c u hr
    have h1 : Rep g'.S up1 w' ((some (.ans m l)).map π) c u := Rep.move (Ok := fun _ => True) (π := π) (g := g') (g' := ⟨g'.β, g'.κ, up1, g'.S⟩) ⟨fun b hb => ⟨hb, rfl⟩, fun b p hb _ => ⟨by show (g'.up b).map π = _; rw [hb]; rfl, rfl⟩, fun b p o hb _ => ⟨trivial, rfl⟩⟩ hr (fun _ _ => trivial)
    exact h1.froz (S' := ga.S) (up' := ga.up) (R := Rb) (fun b hs => .inl hs) (fun b hu => .inr hu) (fun q hq => by
      have hq : some (Pos.root 0) = some q := hq
      injection hq with hq; subst hq; rfl)
  have cellE : ∀ (m : Nat) (y : D) (u : Value), RN g' w' m y u → RN ga w' m (match y with | .ag ys => .ag (frzL ys) | y => Go.Proofs.Ythkgncddilkmbaa.frz y) u := by
    intro m y u hN
    cases y with
    | un => trivial
    | ag xs =>
      obtain ⟨us, rfl, n1, n2⟩ := hN
      refine ⟨us, rfl, by rw [frzL_len]; exact n1, fun l c z hc hz => ?_⟩
      rw [frzL_map, List.getElem?_map] at hc
      obtain ⟨c0, q1, rfl⟩ := Option.map_eq_some_iff.1 hc
      exact (key _ _ _ _ (n2 l c0 z q1 hz)).any _
    | tup _ => simp only [RN] at hN; cases hN
    | mb _ _ => simp only [RN] at hN; cases hN
    | bx _ _ => simp only [RN] at hN; cases hN
    | el _ _ _ _ => simp only [RN] at hN; cases hN
    | bs _ _ _ => simp only [RN] at hN; cases hN
    | _ => simp only [RN] at hN; exact (key _ _ _ _ hN).rn
  refine ⟨v, ga, frA r, o, a1, a2, a3, fun b hb => .inl (a4 b hb), fun b hb hs => ?_, fun b hs => ?_, fun b p hp => ?_, ⟨r, a8, rfl⟩, ?_, fun j d u hd hu => ?_⟩
  · rcases hs with hs | hs
    · exact a5 b hb hs
    · cases hq : g'.up b with
      | none => exact absurd hq (hund b hs)
      | some p => exact .inr ((a7 b p hq).2.1 hb)
  · rcases hs with hs | hs
    · exact a6 b hs
    · cases hq : g'.up b with
      | none => exact absurd hq (hund b hs)
      | some p => exact (a7 b p hq).1
  · have hp : (if Und up1 Rb b then none else g'.up b) = some p := hp
    split at hp
    · cases hp
    · rename_i hn
      obtain ⟨c1, c2, c3⟩ := a7 b p hp
      exact ⟨c1, c2, fun q => q.elim c3 hn⟩
  · cases r with
    | tup xs =>
      obtain ⟨us, rfl, n1, n2⟩ := a9
      refine ⟨us, rfl, by simp [n1], fun m y u hy hu => ?_⟩
      rw [List.getElem?_map] at hy
      obtain ⟨y0, q1, rfl⟩ := Option.map_eq_some_iff.1 hy
      exact cellE m y0 u (n2 m y0 u q1 hu)
    | un => trivial
    | ag xs => exact cellE 0 (.ag xs) v a9
    | mb _ _ => simp only [RNs, RN] at a9; cases a9
    | bx _ _ => simp only [RNs, RN] at a9; cases a9
    | el _ _ _ _ => simp only [RNs, RN] at a9; cases a9
    | bs _ _ _ => simp only [RNs, RN] at a9; cases a9
    | _ => simp only [RNs] at a9; exact cellE 0 _ v a9
  · have hR := a10 j d u hd hu
    cases d with
    | un => trivial
    | ag xs =>
      obtain ⟨us, rfl, n1, n2⟩ := hR
      refine ⟨us, rfl, n1, fun l x z hx hz => (n2 l x z hx hz).imp id fun q => ?_⟩
      exact Rep.move mv q (fun p hp => by injection hp with hp; subst hp; trivial)
    | _ => exact Rep.move mv (show Rep g'.S g'.up w' (some (.par j 0)) _ u from hR) (fun p hp => by injection hp with hp; subst hp; trivial)
/-- the same, where the frozen answer is known. -/
theorem FCon.ice {P : Program} {f : FuncId} {args : List D} {y : D} (h : FCon P f args (fun r _ => frA r = y)) : FCon P f args (fun r _ => r = y) := h.frz.mono fun _ _ ⟨_, e, q⟩ => q.trans e
/-- where nothing is given, nothing comes back. -/
theorem FCon.noout {P : Program} {f : FuncId} {args : List D} {R : D → Prop} (h : FCon P f args (fun r _ => R r)) : FCon P f args (fun r o => R r ∧ o = []) := by
  refine ⟨h.ent, fun w g vs h1 h2 h3 h4 => (h.run w g vs h1 h2 h3 h4).mono ?_⟩
  rintro e w' ⟨v, g', r, o, a1, a2, a3, a4, a5, a6, a7, a8, a9, a10⟩
  exact ⟨v, g', r, [], a1, a2, a3, a4, a5, a6, a7, ⟨a8, rfl⟩, a9, fun j d u q => by simp at q⟩
theorem pure_rows {α : Type} {f : α → List D} (h : ∀ x, ∀ d ∈ f x, Pure d) (e k : Nat) (xs : List α) : Pure (.osl e k (xs.map f)) := .osl fun i j row d hi hj => by
  rw [List.getElem?_map] at hi
  obtain ⟨y, -, rfl⟩ := Option.map_eq_some_iff.1 hi
  exact h y d (List.mem_of_getElem? hj)
theorem pure_agL (xs : List D) : Pure (.ag xs) = ∀ d ∈ xs, Pure d := propext ⟨fun h d hd => by
  obtain ⟨j, hj⟩ := List.mem_iff_getElem?.1 hd
  cases h with
  | ag h => exact h j d hj, fun h => .ag fun j d hj => h d (List.mem_of_getElem? hj)⟩
attribute [go_sem] pure_agL List.forall_mem_cons List.not_mem_nil false_imp_iff
/-- an answer told otherwise. -/
theorem FCon.wk {P : Program} {f : FuncId} {args : List D} {Rs Rs' : D → List D → Prop} (h : FCon P f args Rs) (hr : ∀ r o, Rs r o → ∃ r', Rs' r' o ∧ ∀ (g : Gh) (w : World) (v : Value), RNs g w r v → RNs g w r' v) : FCon P f args Rs' := by
  refine ⟨h.ent, fun w g vs h1 h2 h3 h4 => (h.run w g vs h1 h2 h3 h4).mono ?_⟩
  rintro e w' ⟨v, g', r, o, a1, a2, a3, a4, a5, a6, a7, a8, a9, a10⟩
  obtain ⟨r', b1, b2⟩ := hr r o a8
  exact ⟨v, g', r', o, a1, a2, a3, a4, a5, a6, a7, b1, b2 _ _ _ a9, a10⟩
theorem Rep.nil_osl {S : Nat → Prop} {up : Nat → Option Pos} {w : World} {p : Option Pos} {v : Value} (e k : Nat) (h : Rep S up w p .nil v) : Rep S up w p (.osl e k []) v := by cases h; exact .osl0
theorem Rep.nil_sl {S : Nat → Prop} {up : Nat → Option Pos} {w : World} {p : Option Pos} {v : Value} (k : Nat) (h : Rep S up w p .nil v) : Rep S up w p (.sl k []) v := by cases h; exact .sl0 (Nat.zero_le _)
/-- a nil slice is an empty one. -/
theorem FCon.nilO {P : Program} {f : FuncId} {args : List D} {b : Bool} {e k : Nat} {rows : List (List D)} (h : FCon P f args (fun r _ => r = if b then .osl e k rows else .nil)) : FCon P f args (fun r _ => r = .osl e k (if b then rows else [])) := h.wk fun r o e' => by
  subst e'
  cases b with
  | true => exact ⟨_, rfl, fun _ _ _ q => q⟩
  | false => exact ⟨_, rfl, fun _ _ _ q => Rep.nil_osl _ _ q⟩
theorem FCon.nilS {P : Program} {f : FuncId} {args : List D} {b : Bool} {k : Nat} {rows : List (List D)} (h : FCon P f args (fun r _ => r = if b then .sl k rows else .nil)) : FCon P f args (fun r _ => r = .sl k (if b then rows else [])) := h.wk fun r o e' => by
  subst e'
  cases b with
  | true => exact ⟨_, rfl, fun _ _ _ q => q⟩
  | false => exact ⟨_, rfl, fun _ _ _ q => Rep.nil_sl _ q⟩
end Go.Proofs.Ythkgncddilkmbaa
