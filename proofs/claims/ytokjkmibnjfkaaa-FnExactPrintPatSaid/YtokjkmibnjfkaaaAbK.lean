/- The engine, eleventh part: a region's operations, in the order of the text. -/
import Derived.Test.YtokjkmibnjfkaaaAbJ
namespace Go.Proofs.Ytokjkmibnjfkaaa
set_option linter.unusedVariables false
set_option linter.unusedSimpArgs false
open Go.RowKit
/-- a closure over sealed variables. -/
def aCaps (σ : St) : List Operand → Option (Prop × List D)
  | [] => some (True, [])
  | z :: l => match bodyT (ev σ z), aCaps σ l with
    | .d y, some (ob, ys) => some (oblT (ev σ z) ∧ ob, y :: ys)
    | _, _ => none
def aopF (σ : St) : Op → Option (Prop × T)
  | .makeFunc (.func f) first caps => match first.toList, aCaps σ caps.toList with
    | [], some (ob, ys) => some (ob, .e (.d (.fn f ys)))
    | _, _ => none
  | _ => none
theorem aCaps_ok {x : Cx} {σ : St} {g : Gh} {a : Act} {w : World} (hr : Rel x g σ a w) : ∀ (l : List Operand) (ob : Prop) (ys : List D), aCaps σ l = some (ob, ys) → ob → RepL g.S w ys (l.map a.eval)
  | [], ob, ys, h, ho => by injection h with h; injection h with e1 e2; subst e2; exact RepL.nil _ _
  | z :: l, ob, ys, h, ho => by
    unfold aCaps at h
    split at h
    · rename_i y ob' ys' hz hl
      injection h with h; injection h with e1 e2
      subst e1 e2
      have h1 := body_ok (ev_ok hr z) ho.1
      rw [hz] at h1
      exact RepL.cons h1 (aCaps_ok hr l ob' ys' hl ho.2)
    · cases h
theorem aopF_ok {x : Cx} {σ : St} {o : Oper} {ob : Prop} {y : T} (h : aopF σ o.op = some (ob, y)) (ho : ob) {g : Gh} {a : Act} {w : World} (hr : Rel x g σ a w) :
    ∃ r, (execOp a.eval o).run x.P w = .ok (.value r) w ∧ RT x.B g w y r := by
  unfold aopF at h
  split at h
  · rename_i f first caps hop
    split at h
    · rename_i ob' ys h1 h2
      injection h with h; injection h with e1 e2
      subst e1 e2
      have hf : first = #[] := Array.ext' h1
      subst hf
      have hc := aCaps_ok hr _ _ _ h2 ho
      have hl : ys.length = caps.toList.length := by have := hc.1; simpa using this.symm
      have hval : (caps.map a.eval) = ((List.range ys.length).map fun j => (caps.toList.map a.eval).getD j undef).toArray := by
        apply Array.ext'
        rw [Array.toList_map]
        apply List.ext_getElem?
        intro j
        rcases Nat.lt_or_ge j ys.length with q | q
        · rw [List.getElem?_map (l := List.range ys.length), List.getElem?_range q, Option.map_some, List.getD_eq_getElem?_getD]
          have hj : j < (caps.toList.map a.eval).length := by simp; rw [← Array.length_toList]; omega
          rw [List.getElem?_eq_getElem hj]; rfl
        · rw [List.getElem?_eq_none (by simp; rw [← Array.length_toList]; omega), List.getElem?_eq_none (by simpa using q)]
      refine ⟨.func (.func f) #[] (caps.map a.eval), ?_, ?_⟩
      · simp only [execOp, hop, Instr.makeFunc, Sem.run_bind, Sem.run_pure, Result.andThen_ok, Array.map_empty]
      · rw [hval]
        refine Rep.fn _ fun j d hj => ?_
        have hlt : j < (caps.toList.map a.eval).length := by rw [hc.1]; exact (List.getElem?_eq_some_iff.1 hj).1
        have := hc.2 j d _ hj (List.getElem?_eq_getElem hlt)
        rw [List.getD_eq_getElem?_getD, List.getElem?_eq_getElem hlt]; exact this
    · cases h
  · cases h
/-- an operation that changes nothing. -/
def aopP (P : Program) (σ : St) (op : Op) : Option (Prop × T) := match aop1 P σ op with
  | some r => some r
  | none => aopF σ op
theorem aopP_ok {x : Cx} {σ : St} {o : Oper} {ob : Prop} {y : T} (h : aopP x.P σ o.op = some (ob, y)) (ho : ob) {g : Gh} {a : Act} {w : World} (hr : Rel x g σ a w) :
    ∃ r, (execOp a.eval o).run x.P w = .ok (.value r) w ∧ RT x.B g w y r := by
  unfold aopP at h
  split at h
  · rename_i r h1
    injection h with h
    subst h
    exact aop1_ok h1 ho hr
  · exact aopF_ok h ho hr
/-- the value that a guard gives. -/
def gdT (c : Bool) : T → T
  | .e x => .mb c x
  | .mb c' x => .mb (c && c') x
  | .tup _ => .e .un
theorem gdT_true {B : Nat} {g : Gh} {w : World} {y : T} {v : Value} (h : RT B g w y v) : RT B g w (gdT true y) v := by
  cases y with
  | e x => exact ⟨fun _ => h, fun q => (by cases q)⟩
  | tup xs => trivial
  | mb c x => exact ⟨fun q => h.1 (by simpa using q), fun q => h.2 (by simpa using q)⟩
theorem gdT_false (B : Nat) (g : Gh) (w : World) (y : T) : RT B g w (gdT false y) undef := by
  cases y with
  | e x => exact ⟨fun q => (by cases q), fun _ => rfl⟩
  | tup xs => trivial
  | mb c x => exact ⟨fun q => (by cases q), fun _ => rfl⟩
def gvT (y : T) (want : Bool) : Option Bool := match y with
  | .e (.d (.s (.bool b))) => some (b == want)
  | .mb c (.d (.s (.bool b))) => some (c && (b == want))
  | _ => none
def dstAt (ops : Array Oper) (j : Nat) : Option Tmp := (ops[j]?).bind (·.dst)
def grd (ops : Array Oper) (σ : St) (j : Nat) (want : Bool) : Option Bool := match dstAt ops j with
  | some t => gvT (σ.t t) want
  | none => none
/-- the slots that a region writes are slots. -/
def chk (N : Nat) (ops : Array Oper) : Bool := ops.toList.all fun o => match o.dst with
  | some d => decide (d < N) && decide (d < 1000)
  | none => true
theorem chk_spec {N : Nat} {ops : Array Oper} (h : chk N ops = true) {j : Nat} {o : Oper} (ho : ops[j]? = some o) {d : Tmp} (hd : o.dst = some d) : d < N ∧ d < 1000 := by
  have := List.all_eq_true.1 h o (by rw [← Array.getElem?_toList] at ho; exact List.mem_of_getElem? ho)
  rw [hd] at this
  simpa using this
theorem grd_ok {x : Cx} {g : Gh} {σ : St} {a : Act} {w : World} (hr : Rel x g σ a w) {ops : Array Oper} (hc : chk x.N ops = true) {j : Nat} {want c : Bool} (h : grd ops σ j want = some c) :
    (yielded ops a.tmps j == some want) = c := by
  unfold grd at h
  split at h
  · rename_i t ht
    have htN : t < a.tmps.size := by
      rw [hr.sz]
      unfold dstAt at ht
      cases ho : ops[j]? with
      | none => rw [ho] at ht; cases ht
      | some o => rw [ho] at ht; exact (chk_spec hc ho ht).1
    have hy : yielded ops a.tmps j = match a.tmps.getD t undef with | .bool b => some b | _ => none := by
      unfold yielded
      unfold dstAt at ht
      rw [ht]
      simp only [Option.bind_some, Array.getElem?_eq_getElem htN]
      rw [show a.tmps.getD t undef = a.tmps[t] by rw [Array.getD_eq_getD_getElem?, Array.getElem?_eq_getElem htN]; rfl]
      split <;> rename_i q
      · injection q with q; rw [q]
      · split
        · rename_i b q'; rw [q'] at q; exact absurd rfl (q b)
        · rfl
    have h1 := hr.tm t
    unfold gvT at h
    split at h
    · rename_i b hb
      injection h with h
      rw [hb] at h1
      have hv : a.tmps.getD t undef = .bool b := Rep.s_inv h1
      rw [hy, hv, ← h]
      cases b <;> cases want <;> rfl
    · rename_i c' b hb
      injection h with h
      rw [hb] at h1
      cases c' with
      | true =>
        have hv : a.tmps.getD t undef = .bool b := Rep.s_inv (h1.1 rfl)
        rw [hy, hv, ← h]
        cases b <;> cases want <;> rfl
      | false =>
        have hv : a.tmps.getD t undef = undef := h1.2 rfl
        rw [hy, hv, ← h]
        cases want <;> rfl
    · cases h
  · cases h
/-- arguments of a call. -/
def aArgs (σ : St) : List Operand → Option (Prop × List A)
  | [] => some (True, [])
  | z :: l => match argE (bodyT (ev σ z)), aArgs σ l with
    | some y, some (ob, ys) => some (oblT (ev σ z) ∧ ob, y :: ys)
    | _, _ => none
def RAs (S : Seal) (w : World) (as : List A) (us : List Value) : Prop := us.length = as.length ∧ ∀ (j : Nat) (b : A) (u : Value), as[j]? = some b → us[j]? = some u → RA S w b u
theorem aArgs_ok {x : Cx} {σ : St} {g : Gh} {a : Act} {w : World} (hr : Rel x g σ a w) : ∀ (l : List Operand) (ob : Prop) (ys : List A), aArgs σ l = some (ob, ys) → ob → RAs g.S w ys (l.map a.eval)
  | [], ob, ys, h, ho => by injection h with h; injection h with e1 e2; subst e2; exact ⟨rfl, fun j b u q => by simp at q⟩
  | z :: l, ob, ys, h, ho => by
    unfold aArgs at h
    split at h
    · rename_i y ob' ys' hz hl
      injection h with h; injection h with e1 e2
      subst e1 e2
      have h1 := argE_ok hz (body_ok (ev_ok hr z) ho.1)
      obtain ⟨i1, i2⟩ := aArgs_ok hr l ob' ys' hl ho.2
      refine ⟨by simpa using i1, fun j b u q r => ?_⟩
      cases j with
      | zero => simp at q r; subst q r; exact h1
      | succ j => exact i2 j b u (by simpa using q) (by simpa using r)
    · cases h
def aCallee (σ : St) : Op → Option (Prop × FuncId × List A)
  | .call ⟨.value fo, args, _⟩ => match bodyT (ev σ fo), aArgs σ args.toList with
    | .d (.fn f caps), some (ob, as) => some (oblT (ev σ fo) ∧ ob, f, as ++ caps.map .d)
    | _, _ => none
  | _ => none
theorem aCallee_ok {x : Cx} {σ : St} {o : Oper} {ob : Prop} {f : FuncId} {as : List A} (h : aCallee σ o.op = some (ob, f, as)) (ho : ob) {g : Gh} {a : Act} {w : World} (hr : Rel x g σ a w) :
    ∃ vs : List Value, RAs g.S w as vs ∧ (execOp a.eval o).run x.P w = (callFunc f vs.toArray).run x.P w := by
  unfold aCallee at h
  split at h
  · rename_i fo args ts hop
    split at h
    · rename_i f' caps ob' as' hf ha
      injection h with h; injection h with e1 e2; injection e2 with e2 e3
      subst e1 e2 e3
      have h1 := body_ok (ev_ok hr fo) ho.1
      rw [hf] at h1
      have h2 := aArgs_ok hr _ _ _ ha ho.2
      have h1 : Rep g.S w (.fn f' caps) (a.eval fo) := h1
      generalize hv : a.eval fo = v at h1
      cases h1 with
      | fn us hus =>
        refine ⟨args.toList.map a.eval ++ (List.range caps.length).map us, ⟨by have := h2.1; simp only [List.length_append, List.length_map, List.length_range] at this ⊢; omega, fun j b u q r => ?_⟩, ?_⟩
        · have hl := h2.1
          rcases Nat.lt_or_ge j as'.length with lt | ge
          · rw [List.getElem?_append_left lt] at q
            rw [List.getElem?_append_left (by omega)] at r
            exact h2.2 j b u q r
          · rw [List.getElem?_append_right ge, List.getElem?_map] at q
            rw [List.getElem?_append_right (by omega), hl, List.getElem?_map] at r
            cases hc : caps[j - as'.length]? with
            | none => rw [hc] at q; cases q
            | some d =>
              rw [hc] at q
              injection q with q
              subst q
              rw [List.getElem?_range (List.getElem?_eq_some_iff.1 hc).1] at r
              injection r with r
              subst r
              exact hus _ d hc
        · simp only [execOp, hop, resolve, Sem.run_bind, Deferred.ofValue, hv, Sem.run_pure, Result.andThen_ok, invoke, Array.empty_append]
          congr 2
          apply Array.ext'
          simp
    · cases h
  · cases h
/-- a call: its answer is the callee's word. -/
def ACall (P : Program) (σ : St) (o : Oper) (K : St → Prop) : Prop :=
  ∃ d ob f as Rs, o.dst = some d ∧ aCallee σ o.op = some (ob, f, as) ∧ ob ∧ FCon P f as Rs ∧ ∀ r, Rs r → K ((σ.sc (pMod d) pAll).put (some d) (rnT d r))
/-- a call whose answer's memory is not the caller's to write; under a guard. -/
def ACallQ (P : Program) (σ : St) (o : Oper) (c : Bool) (K : T → Prop) : Prop :=
  ∃ d ob f as r, o.dst = some d ∧ aCallee σ o.op = some (ob, f, as) ∧ (c = true → ob ∧ FCon P f as (· = r)) ∧ K (slT r)
def astep (P : Program) (ops : Array Oper) (o : Oper) (K : St → Prop) (σ : St) : Prop := match o.guard with
  | none => match aopP P σ o.op with
    | some (ob, y) => ob ∧ K (σ.put o.dst y)
    | none => match aop2 P σ o.dst o.op with
      | some (ob, y, σ') => ob ∧ K (σ'.put o.dst y)
      | none => ACall P σ o K
  | some (j, want) => match grd ops σ j want with
    | none => False
    | some c => match aopP P σ o.op with
      | some (ob, y) => (c = true → ob) ∧ K (σ.put o.dst (gdT c y))
      | none => ACallQ P σ o c fun r => K (σ.put o.dst (gdT c r))
def aops (P : Program) (ops : Array Oper) (K : St → Prop) : List Oper → St → Prop
  | [], σ => K σ
  | o :: rest, σ => astep P ops o (aops P ops K rest) σ
theorem put_un_none {σ : St} {y : T} : σ.put none y = σ := rfl
theorem aops_sound {x : Cx} {ops : Array Oper} (hc : chk x.N ops = true) {K : St → Prop} {Q : Exit → Act → World → Prop} (hQ : ∀ σ' g' a' w', Rel x g' σ' a' w' → K σ' → Q .normal a' w') :
    ∀ (l : List Oper), (∀ o ∈ l, ∀ d, o.dst = some d → d < x.N ∧ d < 1000) → ∀ (σ : St) (g : Gh) (a : Act) (w : World), Rel x g σ a w → aops x.P ops K l σ → wpList x.P ops Q l a w
  | [], _, σ, g, a, w, hr, h => hQ σ g a w hr h
  | o :: rest, hl, σ, g, a, w, hr, h => by
    have ih := aops_sound hc hQ rest (fun o' ho' => hl o' (List.mem_cons_of_mem _ ho'))
    have hd := hl o (by simp)
    have hdN : ∀ d, o.dst = some d → d < x.N := fun d q => (hd d q).1
    simp only [aops, astep] at h
    unfold wpList
    split at h
    · rename_i hgd
      rw [if_pos (by simp [Region.wanted, hgd])]
      left
      unfold Oper.wp
      split at h
      · rename_i ob y hop
        obtain ⟨r, r1, r2⟩ := aopP_ok hop h.1 hr
        rw [r1, Oper.upon_value]
        exact ih _ _ _ _ (hr.put r2 o.dst hdN) h.2
      · split at h
        · rename_i ob y σ' hop
          obtain ⟨w', g', r0, r1⟩ := aop2_ok hop h.1 hr
          rcases r1 with ⟨r, r1, r2⟩ | ⟨r1, r2⟩
          · rw [r1, Oper.upon_value]
            exact ih _ _ _ _ (r0.put r2 o.dst hdN) h.2
          · rw [r1, Oper.upon_skip]
            exact ih _ _ _ _ (r0.put (y := y) (v := undef) (by rw [r2]; trivial) o.dst hdN) h.2
        · obtain ⟨d, ob, f, as, Rs, hdst, hcal, ho, hF, hK⟩ := h
          obtain ⟨vs, v1, v2⟩ := aCallee_ok hcal ho hr
          rw [v2, hF.ent, Oper.upon_enter]
          refine (hF.run w g.S vs hr.new v1.1 v1.2).mono ?_
          rintro e w' ⟨v, g', r, rfl, b1, b2, b3, b4, b5, b6, b7⟩
          obtain ⟨g2, c1, c2⟩ := hr.callR b1 b2 b3 b4 b5 d (hd d hdst).2 b7
          rw [hdst]
          exact ih _ _ _ _ (c1.put c2 (some d) (fun d' q => hdN d' (by rw [hdst]; exact q))) (hK r b6)
    · rename_i j want hgd
      split at h
      · exact h.elim
      · rename_i c hcg
        have hw : Region.wanted o (yielded ops a.tmps) = c := by
          simp only [Region.wanted, hgd]
          exact grd_ok hr hc hcg
        cases c with
        | true =>
          rw [if_pos hw]
          left
          unfold Oper.wp
          split at h
          · rename_i ob y hop
            obtain ⟨r, r1, r2⟩ := aopP_ok hop (h.1 rfl) hr
            rw [r1, Oper.upon_value]
            exact ih _ _ _ _ (hr.put (gdT_true r2) o.dst hdN) h.2
          · obtain ⟨d, ob, f, as, r, hdst, hcal, hF, hK⟩ := h
            obtain ⟨ho, hF⟩ := hF rfl
            obtain ⟨vs, v1, v2⟩ := aCallee_ok hcal ho hr
            rw [v2, hF.ent, Oper.upon_enter]
            refine (hF.run w g.S vs hr.new v1.1 v1.2).mono ?_
            rintro e w' ⟨v, g', r', rfl, b1, b2, b3, b4, b5, rfl, b7⟩
            obtain ⟨c1, c2⟩ := hr.callS b1 b2 b3 b7
            exact ih _ _ _ _ (c1.put (gdT_true c2) o.dst hdN) hK
        | false =>
          rw [if_neg (by rw [hw]; simp)]
          split at h
          · rename_i ob y hop
            exact ih _ _ _ _ (hr.put (gdT_false x.B g w y) o.dst hdN) h.2
          · obtain ⟨d, ob, f, as, r, hdst, hcal, hF, hK⟩ := h
            exact ih _ _ _ _ (hr.put (gdT_false x.B g w _) o.dst hdN) hK
end Go.Proofs.Ytokjkmibnjfkaaa
