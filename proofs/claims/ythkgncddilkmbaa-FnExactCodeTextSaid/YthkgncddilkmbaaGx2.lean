import Derived.Test.YthkgncddilkmbaaGx
/- The steps of a walk, each a lemma whose last argument is found by its default tactic. -/
namespace Go.Proofs.Ythkgncddilkmbaa
set_option linter.unusedVariables false
set_option linter.unusedSimpArgs false
open Go.RowKit
theorem scC_comm (q r : Nat → Bool) (y : D) : scC q (scC r y) = scC r (scC q y) := by
  cases y with
  | bx id o => by_cases h1 : q id = true <;> by_cases h2 : r id = true <;> simp [scC, h1, h2]
  | el id k i o => by_cases h1 : q id = true <;> by_cases h2 : r id = true <;> simp [scC, h1, h2]
  | bs id k n => by_cases h1 : q id = true <;> by_cases h2 : r id = true <;> simp [scC, h1, h2]
  | _ => rfl
theorem scC_commL (q r : Nat → Bool) (l : List D) : (l.map (scC r)).map (scC q) = (l.map (scC q)).map (scC r) := by
  rw [List.map_map, List.map_map]; exact List.map_congr_left fun y _ => scC_comm q r y
theorem scE_comm (q r : Nat → Bool) (y : D) : scE q (scE r y) = scE r (scE q y) := by
  cases y with
  | ag xs => simp only [scE, scC_commL q r]
  | bx id o => by_cases h1 : q id = true <;> by_cases h2 : r id = true <;> simp [scE, scC, h1, h2]
  | el id k i o => by_cases h1 : q id = true <;> by_cases h2 : r id = true <;> simp [scE, scC, h1, h2]
  | bs id k n => by_cases h1 : q id = true <;> by_cases h2 : r id = true <;> simp [scE, scC, h1, h2]
  | _ => rfl
theorem scT_comm (q r : Nat → Bool) (y : D) : scT q (scT r y) = scT r (scT q y) := by
  cases y with
  | tup xs => simp only [scT, List.map_map]; congr 1; exact List.map_congr_left fun y _ => scE_comm q r y
  | mb c x => simp only [scT, scE_comm q r]
  | ag xs => exact scE_comm q r (.ag xs)
  | bx id o => by_cases h1 : q id = true <;> by_cases h2 : r id = true <;> simp [scT, scE, scC, h1, h2]
  | el id k i o => by_cases h1 : q id = true <;> by_cases h2 : r id = true <;> simp [scT, scE, scC, h1, h2]
  | bs id k n => by_cases h1 : q id = true <;> by_cases h2 : r id = true <;> simp [scT, scE, scC, h1, h2]
  | _ => rfl
theorem scO_comm (q r : Nat → Bool) (o : Ob) : scO q (scO r o) = scO r (scO q o) := by
  cases o <;> simp only [scO, scC_commL q r, scC_comm q r]
/-- two objects that are made may be made in either order. -/
theorem mk2 {ρ : St} {d e : Nat} {o p : Ob} {x y : D} (h : d ≠ e) (ho : scO (fun i => i != e) o = o) (hp : scO (fun i => i != d) p = p) (hx : scT (fun i => i != e) x = x) (hy : scT (fun i => i != d) y = y) :
    ((((((ρ.sc (fun i => i != e) (fun i => i != e)).setB e p).put (some e) y).sc (fun i => i != d) (fun i => i != d)).setB d o).put (some d) x) = ((((((ρ.sc (fun i => i != d) (fun i => i != d)).setB d o).put (some d) x).sc (fun i => i != e) (fun i => i != e)).setB e p).put (some e) y) := by
  simp only [St.put, St.setB, St.sc]
  congr 1
  · funext i
    by_cases h1 : i = d
    · subst h1; rw [if_pos rfl, if_neg h, if_pos rfl, hx]
    · rw [if_neg h1]
      by_cases h2 : i = e
      · subst h2; rw [if_pos rfl, if_pos rfl, hy]
      · rw [if_neg h2, if_neg h2, if_neg h1]; exact scT_comm _ _ _
  · funext i
    by_cases h1 : i = d
    · subst h1
      have h3 : (i != e) = true := by simpa using h
      rw [if_pos rfl, if_neg h, if_pos h3, if_pos rfl, Option.map_some, ho]
    · rw [if_neg h1]
      by_cases h2 : i = e
      · subst h2
        have h3 : (i != d) = true := by simpa using h1
        rw [if_pos h3, if_pos rfl, if_pos rfl, Option.map_some, hp]
      · have h3 : (i != d) = true := by simpa using h1
        have h4 : (i != e) = true := by simpa using h2
        rw [if_pos h3, if_neg h2, if_neg h2, if_pos h4, if_pos h4, if_neg h1, if_pos h3, Option.map_map, Option.map_map]
        cases ρ.b i with
        | none => rfl
        | some q => exact congrArg some (scO_comm _ _ q)
theorem q_Meet {σ τ : St} (h : Meet σ τ) : Meet σ τ := h
theorem zM {σ τ : St} (h : σ = τ := by first | rfl | (rw [mk2 (by decide) rfl rfl rfl rfl]; done) | fail) : Meet σ τ := h
/-- the facts of a walk, out of omega's sight. -/
structure WFx (p : Prop) : Prop where
  out : p
theorem q_aqsN {M : Md} {ops : Array Oper} {fl : Nat → Nat → Bool} {K : St → Prop} {t : Tr} {acc : List (Nat × Oper)} {σ : St} (h : aqsN M ops fl K t acc σ) : aqsN M ops fl K t acc σ := h
theorem q_aops {M : Md} {ops : Array Oper} {K : St → Prop} {l : List Oper} {σ : St} (h : aops M ops K l σ) : aops M ops K l σ := h
theorem q_aft {σ : St} {dst : Option Tmp} {gs : List Gv} {K : St → Prop} {r : D} {outs : List D} (h : aft σ dst gs K r outs) : aft σ dst gs K r outs := h
theorem q_CallG {P : Program} {f : FuncId} {ars : List D} {bs : List Nat} {K : D → List D → Prop} (h : CallG P f ars bs K) : CallG P f ars bs K := h
theorem q_CallE {P : Program} {f : FuncId} {ars : List D} {bs : List Nat} {K : D → List D → Prop} (h : CallE P f ars bs K) : CallE P f ars bs K := h
theorem q_CallQ {P : Program} {f : FuncId} {ars : List D} {bs : List Nat} {c : Bool} {wr : D → D} {σ : St} {dst : Option Tmp} {K : St → Prop} (h : CallQ P f ars bs c wr σ dst K) : CallQ P f ars bs c wr σ dst K := h
theorem q_imp {c : Prop} {M : Md} {N : Nat} {pl : List (Nat × Plan)} {cd : Code} {K : Exit → St → Prop} {σ : St} (h : c → AC M N pl cd K σ) : c → AC M N pl cd K σ := h
theorem q_ff {p : Prop} (h : False → p) : False → p := h
theorem q_and {a b : Prop} (h : a ∧ b) : a ∧ b := h
theorem f0 : WFx (∀ n : Nat, n + 0 = n) := ⟨fun _ => rfl⟩
/-- one step of the code, told anew. -/
theorem zS {G R : Prop} (r : R) (h : R → G := by
  intro r
  with_reducible first | apply q_aqsN | apply q_aops | apply ACallQ_no (.s (.bool false)) | apply AC_go | apply ACallQ_go | apply q_aft
  simp only [go_sem, simprocAttr, hWf.out]
  fail_if_success (with_reducible refine (?_ : False))
  exact r) : G := h r
/-- the last step of the code. -/
theorem zE {G : Prop} (h : G := by
  with_reducible first | apply q_aqsN | apply q_aops | apply ACallQ_no (.s (.bool false)) | apply AC_go | apply ACallQ_go | apply q_aft
  simp only [go_sem, simprocAttr, hWf.out]
  done) : G := h
/-- the same, but not into the code. -/
theorem zY {G R : Prop} (r : R) (h : R → G := by
  intro r
  with_reducible first | apply q_aqsN | apply q_aops | apply ACallQ_no (.s (.bool false)) | apply ACallQ_go | apply q_aft
  simp only [go_sem, simprocAttr, hWf.out]
  fail_if_success (with_reducible refine (?_ : False))
  exact r) : G := h r
/-- a goal told anew. -/
theorem zT {G R : Prop} (r : R) (h : R → G := by
  intro r
  first
  | ((with_reducible apply CallQ_no); exact r)
  | (simp only [go_sem, simprocAttr, hWf.out]; exact r)
  | fail) : G := h r
theorem zB0 {c : Prop} {M : Md} {N : Nat} {pl : List (Nat × Plan)} {cd : Code} {K : Exit → St → Prop} {σ : St} (h : c → False := by
  intro hb
  (try simp only [decide_eq_true_eq, decide_eq_false_iff_not, Bool.and_eq_true, Bool.or_eq_true, Bool.and_eq_false_iff, Bool.or_eq_false_iff, Bool.not_eq_true', Bool.not_eq_false', beq_iff_eq, beq_eq_false_iff_ne, bne_iff_ne, bne_eq_false_iff_eq, gt_iff_lt, ge_iff_le, Int.not_lt, Int.not_le] at hb) <;> omega) : c → AC M N pl cd K σ := fun q => (h q).elim
theorem zB {c d : Prop} {M : Md} {N : Nat} {pl : List (Nat × Plan)} {cd : Code} {K : Exit → St → Prop} {σ : St} (k : d → AC M N pl cd K σ) (h : c → d := by
  intro hb
  (try simp only [decide_eq_true_eq, decide_eq_false_iff_not, Bool.and_eq_true, Bool.or_eq_true, Bool.and_eq_false_iff, Bool.or_eq_false_iff, Bool.not_eq_true', Bool.not_eq_false', beq_iff_eq, beq_eq_false_iff_ne, bne_iff_ne, bne_eq_false_iff_eq, gt_iff_lt, ge_iff_le, Int.not_lt, Int.not_le] at hb)
  exact hb) : c → AC M N pl cd K σ := fun q => k (h q)
/-- a goal without code. -/
theorem zC {G : Prop} (h : G := by
  first
  | ((with_reducible intro hff); exact False.elim hff)
  | omega
  | (simp only [go_sem, simprocAttr, hWf.out]; done)
  | (intro hg; simp only [Bool.and_eq_true, Bool.or_eq_true, Bool.not_eq_true', Bool.and_eq_false_iff, Bool.or_eq_false_iff, Bool.not_eq_false', decide_eq_true_eq, decide_eq_false_iff_not, Bool.not_not, gt_iff_lt, ge_iff_le, Int.not_lt, Int.not_le] at hg ⊢; first | omega | (simp_all; done) | fail)
  | fail) : G := h
/-- a call whose answer is known. -/
theorem zG {P : Program} {f : FuncId} {ars : List D} {bs : List Nat} {K : D → List D → Prop} {X : D} (hF : FCon P f ars (fun r _ => r = X)) (h : (bs = [] ∨ (Pure X ∧ ∀ o ∈ ([] : List D), Pure o)) ∧ K X []) : CallG P f ars bs K :=
  CallG_mk (FCon.noout (R := fun r => r = X) hF) (by rintro _ _ ⟨rfl, rfl⟩; exact h)
theorem zK {F G R : Prop} (c : F) (r : R) (h : F → R → G := by
  intro c r
  first
  | ((with_reducible apply q_CallG); exact zG c r)
  | ((with_reducible apply q_CallQ); exact CallQ_mk c r)
  | fail) : G := h c r
end Go.Proofs.Ythkgncddilkmbaa
