/- The engine, fourteenth part: how a proof steps through code. -/
import Derived.Test.YtokjkmibnjfkaaaAbM
import Derived.Test.YtokjkmibnjfkaaaProg
namespace Go.Proofs.Ytokjkmibnjfkaaa
set_option linter.unusedVariables false
set_option linter.unusedSimpArgs false
open Go.RowKit
theorem mixed : Try.prog.follows .mixedOrders = true := by kernel_rfl
section
variable {P : Program} {N : Nat} {K : Exit → St → Prop} {σ : St}
/-- what stands behind a piece of code. -/
def seqK (P : Program) (N : Nat) (d : Code) (K : Exit → St → Prop) : Exit → St → Prop
  | .normal, σ => AC P N d K σ
  | e, σ => K e σ
theorem AC_sq {c d : Code} (h : AC P N c (seqK P N d K) σ) : AC P N (.seq c d) K σ := by
  refine AC_seq fun K' hK' => ?_
  intro x g a w Q hx hN hr hQ
  refine h x g a w Q hx hN hr fun e σ' g' a' w' hr' hK => hQ e σ' g' a' w' hr' ?_
  cases e with
  | normal => exact hK' σ' hK
  | exit id => exact hK
  | goto l => exact hK
  | ret => exact hK
  | panic c => exact hK
  | outgrown => exact hK
theorem K_sn {d : Code} (h : AC P N d K σ) : seqK P N d K .normal σ := h
theorem K_se {d : Code} {i : Nat} (h : K (.exit i) σ) : seqK P N d K (.exit i) σ := h
theorem K_sr {d : Code} (h : K .ret σ) : seqK P N d K .ret σ := h
theorem K_bn {i : Nat} (h : K .normal σ) : blockK i K .normal σ := h
theorem K_br {i : Nat} (h : K .ret σ) : blockK i K .ret σ := h
theorem K_be {i : Nat} (h : K .normal σ) : blockK i K (.exit i) σ := by simp only [blockK, if_true]; exact h
theorem K_bo {i j : Nat} (hn : (j == i) = false) (h : K (.exit j) σ) : blockK i K (.exit j) σ := by
  have : j ≠ i := by simpa using hn
  simp only [blockK, if_neg this]; exact h
theorem K_tn {K' : St → Prop} (h : K' σ) : thenK K' K .normal σ := h
theorem K_te {K' : St → Prop} {i : Nat} (h : K (.exit i) σ) : thenK K' K (.exit i) σ := h
theorem K_tr {K' : St → Prop} (h : K .ret σ) : thenK K' K .ret σ := h
/-- the answer; l: the names of the call's own slices that go with it. -/
def retM (P : Program) (rs : List ResultVar) (Rs : T → Prop) (l : List Nat) (σ : St) : Prop := match aRvs P σ rs with
  | some (ob, ys) => ob ∧ Rs (cnT l (mkRes ys))
  | none => False
theorem K_ret {rs : List ResultVar} {Rs : T → Prop} (l : List Nat) (hl : l.Nodup) (h : retM P rs Rs l σ) : retK P rs Rs .ret σ := by
  unfold retM at h
  split at h
  · rename_i ob ys h1
    exact ⟨l, ob, ys, h1, h.1, hl, h.2⟩
  · exact h.elim
theorem K_end {rs : List ResultVar} {Rs : T → Prop} (l : List Nat) (hl : l.Nodup) (h : retM P rs Rs l σ) : retK P rs Rs .normal σ := K_ret (σ := σ) l hl h
/-- a branch. -/
def condT (y : T) (A B : Prop) : Prop := match y with
  | .e (.d (.s (.bool t))) => (t = true → A) ∧ (t = false → B)
  | _ => False
theorem AC_if {z : Operand} {c d : Code} (h : condT (ev σ z) (AC P N c K σ) (AC P N d K σ)) : AC P N (.cond z c d) K σ := by
  unfold condT at h
  split at h
  · rename_i t ht; exact AC_cond t ht h.1 h.2
  · exact h.elim
theorem init_t (ars : List A) (i : Nat) : (St.init ars).t i = match ars[i]? with
  | some (.d x) => .e (.d x)
  | some (.ag xs) => .e (.ag (xs.map .d))
  | none => .e .un := rfl
theorem init_b (ars : List A) (i : Nat) : (St.init ars).b i = none := rfl
theorem put_t (d : Nat) (y : T) (i : Nat) : (σ.put (some d) y).t i = if i = d then y else σ.t i := rfl
theorem put_b (d : Nat) (y : T) : (σ.put (some d) y).b = σ.b := rfl
theorem put_n (y : T) : σ.put none y = σ := rfl
theorem sc_t (p q : Nat → Bool) (i : Nat) : (σ.sc p q).t i = scT p q (σ.t i) := rfl
theorem sc_b (p q : Nat → Bool) (i : Nat) : (σ.sc p q).b i = if q i = true then (σ.b i).map (·.map (scC p)) else none := rfl
theorem setB_t (d : Nat) (row : List C) (i : Nat) : (σ.setB d row).t i = σ.t i := rfl
theorem setB_b (d : Nat) (row : List C) (i : Nat) : (σ.setB d row).b i = if i = d then some row else σ.b i := rfl
theorem fr_t (d : Nat) (row : List C) (i : Nat) : (σ.fr d row).t i = frT d row (σ.t i) := rfl
theorem fr_b (d : Nat) (row : List C) (i : Nat) : (σ.fr d row).b i = if i = d then none else σ.b i := rfl
theorem ev_t (i : Nat) : ev σ (.tmp i) = σ.t i := rfl
theorem ev_i (k : IntKind) (n : Int) : ev σ (.const (.int k n)) = .e (.d (.s (.int k n))) := rfl
theorem ev_b (b : Bool) : ev σ (.const (.bool b)) = .e (.d (.s (.bool b))) := rfl
theorem ev_s (s : ByteArray) : ev σ (.const (.string s)) = .e (.d (.s (.string s))) := rfl
theorem ev_nil : ev σ (.const (.slice none 0 0)) = .e (.d .nil) := rfl
theorem ev_np : ev σ (.const (.pointer none)) = .e (.d .np) := rfl
theorem ev_f (f : FuncId) : ev σ (.func f) = .e (.d (.fn f [])) := rfl
theorem pAll_i (i : Nat) : pAll i = true := rfl
theorem pNot_i (d i : Nat) : pNot d i = (i != d) := rfl
theorem pMod_i (d i : Nat) : pMod d i = (i % 1000 != d) := rfl
end
theorem bnil (s : ByteArray) : (s.toList == ByteArray.toList ⟨#[]⟩) = s.toList.isEmpty := by
  have : ByteArray.toList ⟨#[]⟩ = [] := by kernel_rfl
  rw [this]
  cases s.toList <;> rfl
/-- a call, its arguments known. -/
def CallG (P : Program) (f : FuncId) (ars : List A) (dst : Option Tmp) (K : St → Prop) (σ : St) : Prop := ∃ d Rs, dst = some d ∧ FCon P f ars Rs ∧ ∀ r, Rs r → K ((σ.sc (pMod d) pAll).put (some d) (rnT d r))
def callM (P : Program) (dst : Option Tmp) (K : St → Prop) (σ : St) : Option (Prop × FuncId × List A) → Prop
  | some (ob, f, ars) => ob ∧ CallG P f ars dst K σ
  | none => False
theorem ACall_go {P : Program} {σ : St} {o : Oper} {K : St → Prop} (h : callM P o.dst K σ (aCallee σ o.op)) : ACall P σ o K := by
  unfold callM at h
  split at h
  · rename_i ob f ars hc
    obtain ⟨ho, d, Rs, hd, hF, hK⟩ := h
    exact ⟨d, ob, f, ars, Rs, hd, hc, ho, hF, hK⟩
  · exact h.elim
theorem CallG_mk {P : Program} {f : FuncId} {ars : List A} {d : Tmp} {K : St → Prop} {σ : St} {Rs : T → Prop} (hF : FCon P f ars Rs) (h : ∀ r, Rs r → K ((σ.sc (pMod d) pAll).put (some d) (rnT d r))) : CallG P f ars (some d) K σ := ⟨d, Rs, rfl, hF, h⟩
/-- a call in a region that draws its order. -/
def CallQ (P : Program) (f : FuncId) (ars : List A) (c : Bool) (ob : Prop) (K : T → Prop) : Prop := ∃ r, (c = true → ob ∧ FCon P f ars (· = r)) ∧ K (slT r)
def callQM (P : Program) (dst : Option Tmp) (c : Bool) (K : T → Prop) : Option (Prop × FuncId × List A) → Prop
  | some (ob, f, ars) => dst.isSome = true ∧ CallQ P f ars c ob K
  | none => False
theorem ACallQ_go {P : Program} {σ : St} {o : Oper} {c : Bool} {K : T → Prop} (h : callQM P o.dst c K (aCallee σ o.op)) : ACallQ P σ o c K := by
  unfold callQM at h
  split at h
  · rename_i ob f ars hc
    obtain ⟨hd, r, hF, hK⟩ := h
    obtain ⟨d, hd⟩ := Option.isSome_iff_exists.1 hd
    exact ⟨d, ob, f, ars, r, hd, hc, hF, hK⟩
  · exact h.elim
theorem CallQ_mk {P : Program} {f : FuncId} {ars : List A} {c : Bool} {ob : Prop} {K : T → Prop} {r : T} (hF : FCon P f ars (· = r)) (ho : c = true → ob) (h : K (slT r)) : CallQ P f ars c ob K := ⟨r, fun hc => ⟨ho hc, hF⟩, h⟩
/-- the same where the contract holds under the guard alone. -/
theorem CallQ_gd {P : Program} {f : FuncId} {ars : List A} {c : Bool} {ob : Prop} {K : T → Prop} (r : T) (hF : c = true → FCon P f ars (· = r)) (ho : c = true → ob) (h : K (slT r)) : CallQ P f ars c ob K := ⟨r, fun hc => ⟨ho hc, hF hc⟩, h⟩
theorem getD_map {α : Type} (enc : α → List D) (xs : List α) (k : Nat) (h : k < xs.length) : (xs.map enc).getD k [] = enc xs[k] := by
  rw [List.getD_eq_getElem?_getD, List.getElem?_map, List.getElem?_eq_getElem h]; rfl
/-- a slice is no longer than memory. -/
theorem AC_len {P : Program} {N : Nat} {K : Exit → St → Prop} {σ : St} {c : Code} (i : Nat) {k : Nat} {rows : List (List D)} (hi : rowsE (bodyT (σ.t i)) = some (k, rows)) (ho : oblT (σ.t i)) (h : rows.length ≤ 9223372036854775807 → AC P N c K σ) : AC P N c K σ := by
  intro x g a w Q hx hN hr hQ
  refine h ?_ x g a w Q hx hN hr hQ
  obtain ⟨_, _, _, h1, h2⟩ := (rowsE_ok hi (body_ok (hr.tm i) ho)).sl_shape
  unfold maxLen at h2
  omega
end Go.Proofs.Ytokjkmibnjfkaaa
