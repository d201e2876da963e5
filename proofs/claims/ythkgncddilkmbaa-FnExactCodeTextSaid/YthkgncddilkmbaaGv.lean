import Derived.Test.YthkgncddilkmbaaGu
/- The second engine: the rules that step. -/
namespace Go.Proofs.Ythkgncddilkmbaa
set_option linter.unusedVariables false
set_option linter.unusedSimpArgs false
open Go.RowKit
section
variable {M : Md} {N : Nat} {pl : List (Nat × Plan)} {K K' : Exit → St → Prop} {F : St → Prop} {σ : St} {ops : Array Oper}
theorem sp_skip : stp M N pl .skip K σ = K .normal σ := rfl
theorem sp_exit {id : Nat} : stp M N pl (.exit id) K σ = K (.exit id) σ := rfl
theorem sp_ret : stp M N pl .ret K σ = K .ret σ := rfl
theorem sp_seq {c d : Code} : stp M N pl (.seq c d) K σ = stp M N pl c (thenK (AC M N pl d K) K) σ := rfl
theorem sp_block {id : Nat} {c : Code} : stp M N pl (.block id c) K σ = stp M N pl c (blockK id K) σ := rfl
theorem sp_cond {z : Operand} {c d : Code} : stp M N pl (.cond z c d) K σ = condV (ev σ z) (AC M N pl c K σ) (AC M N pl d K σ) := rfl
theorem sp_reg {id : Nat} {l : List Oper} : stp M N pl (.region id l.toArray false) K σ = aops (M.at id) l.toArray (K .normal) l σ := rfl
def drwV (M : Md) (ops : Array Oper) (K : St → Prop) (σ : St) : Option Plan → Prop
  | some (m, fx, fl, π) => aqsN M ops (flF fl) (aops M ops K (ops.toList.drop m)) π [] σ
  | none => False
theorem sp_drw {id : Nat} {l : List Oper} : stp M N pl (.region id l.toArray true) K σ = drwV (M.at id) l.toArray (K .normal) σ (plF pl id) := by
  show (match plF pl id with | some (m, fx, fl, π) => _ | none => False) = _
  cases plF pl id <;> rfl
theorem sp_loop {c : Code} : stp M N pl (.loop c) K σ = ACL M N pl c K σ := rfl
theorem k_tn : thenK F K .normal σ = F σ := rfl
theorem k_te {i : Nat} : thenK F K (.exit i) σ = K (.exit i) σ := rfl
theorem k_tr : thenK F K .ret σ = K .ret σ := rfl
theorem k_bn {i : Nat} : blockK i K .normal σ = K .normal σ := rfl
theorem k_br {i : Nat} : blockK i K .ret σ = K .ret σ := rfl
theorem k_be {i j : Nat} : blockK i K (.exit j) σ = if j = i then K .normal σ else K (.exit j) σ := rfl
theorem k_rn {P : Program} {rs : List ResultVar} {ars : List D} {Rs : D → List D → Prop} : retK P rs ars Rs .normal σ = retM P rs ars Rs σ := rfl
theorem k_rr {P : Program} {rs : List ResultVar} {ars : List D} {Rs : D → List D → Prop} : retK P rs ars Rs .ret σ = retM P rs ars Rs σ := rfl
theorem ao_nil : aops M ops F [] σ = F σ := rfl
theorem ao_cons {o : Oper} {l : List Oper} : aops M ops F (o :: l) σ = astep M ops o σ (aops M ops F l) := rfl
theorem ent_t (ars : List D) (i : Nat) : (St.ent ars).t i = match ars[i]? with
  | some d => entD i d
  | none => .un := rfl
theorem ent_b (ars : List D) : (St.ent ars).b = entO ars := rfl
theorem put_t (d : Nat) (y : D) (i : Nat) : (σ.put (some d) y).t i = if i = d then y else σ.t i := rfl
theorem put_b (d : Nat) (y : D) : (σ.put (some d) y).b = σ.b := rfl
theorem put_n (y : D) : σ.put none y = σ := rfl
theorem sc_t (q r : Nat → Bool) (i : Nat) : (σ.sc q r).t i = scT q (σ.t i) := rfl
theorem sc_b (q r : Nat → Bool) (i : Nat) : (σ.sc q r).b i = if r i = true then (σ.b i).map (scO q) else none := rfl
theorem sc_0 : σ.sc (pOut []) (pOut []) = σ := sc_all σ
theorem setB_t (d : Nat) (o : Ob) (i : Nat) : (σ.setB d o).t i = σ.t i := rfl
theorem setB_b (d : Nat) (o : Ob) (i : Nat) : (σ.setB d o).b i = if i = d then some o else σ.b i := rfl
theorem fr_t (d : Nat) (o : Ob) (i : Nat) : (σ.fr d o).t i = frT d o (σ.t i) := rfl
theorem fr_b (d : Nat) (o : Ob) (i : Nat) : (σ.fr d o).b i = if i = d then none else (σ.b i).map (frO d o) := rfl
theorem unf_t (id : Nat) (row : List D) (i : Nat) : (σ.unfB id row).t i = scT (pUn id row) (σ.t i) := rfl
theorem unf_b (id : Nat) (row : List D) (i : Nat) : (σ.unfB id row).b i = if i = id then some (.box (unfL id 0 row)) else match unfO id row i with
    | some o => some o
    | none => (σ.b i).map (scO (pUn id row)) := rfl
theorem cal_t (d : Nat) (gs : List Gv) (r : D) (outs : List D) (i : Nat) : (σ.cal d gs r outs).t i = scT (qCal d gs outs) (σ.t i) := rfl
theorem cal_b (d : Nat) (gs : List Gv) (r : D) (outs : List D) (i : Nat) : (σ.cal d gs r outs).b i = match ansO d r i with
    | some o => some o
    | none => match outO outs gs i with
      | some o => if ansB d i = true then none else some o
      | none => if ansB d i = true ∨ inG gs i = true then none else (σ.b i).map (scO (qCal d gs outs)) := rfl
theorem op_t (id e k : Nat) (rows : List (List D)) (i c nm : Nat) (d : D) (o : Ob) (j : Nat) : (σ.opE id e k rows i c nm d o).t j = scT (pOut [nm]) (σ.t j) := rfl
theorem op_b (id e k : Nat) (rows : List (List D)) (i c nm : Nat) (d : D) (o : Ob) (j : Nat) : (σ.opE id e k rows i c nm d o).b j = if j = nm then some o else if j = id then some (.hol e k rows i c (refC nm d)) else if pOut [nm, id] j = true then (σ.b j).map (scO (pOut [nm])) else none := rfl
theorem ev_t (i : Nat) : ev σ (.tmp i) = σ.t i := rfl
theorem ev_i (k : IntKind) (n : Int) : ev σ (.const (.int k n)) = .s (.int k n) := rfl
theorem ev_b (b : Bool) : ev σ (.const (.bool b)) = .s (.bool b) := rfl
theorem ev_s (s : ByteArray) : ev σ (.const (.string s)) = .s (.string s) := rfl
theorem ev_nil : ev σ (.const (.slice none 0 0)) = .nil := rfl
theorem ev_np : ev σ (.const (.pointer none)) = .np := rfl
theorem ev_f (f : FuncId) : ev σ (.func f) = .fn f [] := rfl
end
theorem bnil (s : ByteArray) : (s.toList == ByteArray.toList ⟨#[]⟩) = s.toList.isEmpty := by
  have : ByteArray.toList ⟨#[]⟩ = [] := by kernel_rfl
  rw [this]
  cases s.toList <;> rfl
theorem CallG_mk {P : Program} {f : FuncId} {ars : List D} {bs : List Nat} {K : D → List D → Prop} {Rs : D → List D → Prop} (hF : FCon P f ars Rs) (h : ∀ r outs, Rs r outs → (bs = [] ∨ (Pure r ∧ ∀ o ∈ outs, Pure o)) ∧ K r outs) : CallG P f ars bs K := ⟨Rs, hF, h⟩
theorem CallE_mk {P : Program} {f : FuncId} {ars : List D} {bs : List Nat} {K : D → List D → Prop} {r0 : D} {o0 : List D} (hF : FCon P f ars (fun r o => r = r0 ∧ o = o0)) (h : (bs = [] ∨ (Pure r0 ∧ ∀ o ∈ o0, Pure o)) ∧ K r0 o0) : CallE P f ars bs K := ⟨r0, o0, hF, h.1, h.2⟩
/-- a quiet call, its arguments known. -/
def CallQ (P : Program) (f : FuncId) (ars : List D) (bs : List Nat) (c : Bool) (wr : D → D) (σ : St) (dst : Option Tmp) (K : St → Prop) : Prop := ∃ r0, (c = true → FCon P f ars (fun r _ => r = r0) ∧ (bs = [] ∨ Pure r0)) ∧ K (σ.put dst (wr (frA r0)))
def callQA (P : Program) (σ : St) (dst : Option Tmp) (c : Bool) (wr : D → D) (K : St → Prop) (ob : Prop) (f : FuncId) (caps : List D) : Option (Prop × List D × List Gv × List Nat) → Prop
  | some (o2, ars, gs, bs) => dst.isSome = true ∧ gs = [] ∧ (c = true → ob ∧ o2) ∧ CallQ P f (ars ++ caps) bs c wr σ dst K
  | none => c = false ∧ K (σ.put dst (wr .un))
def callQM (P : Program) (σ : St) (dst : Option Tmp) (c : Bool) (wr : D → D) (K : St → Prop) : Option (Prop × FuncId × List D × List Operand) → Prop
  | some (ob, f, caps, ops) => callQA P σ dst c wr K ob f caps (aArgs σ [] 0 ops)
  | none => c = false ∧ K (σ.put dst (wr .un))
theorem ACallQ_go {P : Program} {σ : St} {o : Oper} {c : Bool} {wr : D → D} {K : St → Prop} (h : callQM P σ o.dst c wr K (aFn σ o.op)) : ACallQ P σ o c wr K := by
  unfold callQM at h
  split at h
  · rename_i ob f caps ops hc
    unfold callQA at h
    split at h
    · rename_i o2 ars gs bs ha
      obtain ⟨hd, rfl, ho, r0, hF, hK⟩ := h
      obtain ⟨d, hd⟩ := Option.isSome_iff_exists.1 hd
      exact ⟨frA r0, fun q => ⟨d, ob, f, caps, ops, o2, ars, bs, r0, hd, hc, (ho q).1, ha, (ho q).2, (hF q).1, (hF q).2, rfl⟩, hK⟩
    · exact ⟨_, fun q => (by rw [h.1] at q; cases q), h.2⟩
  · exact ⟨_, fun q => (by rw [h.1] at q; cases q), h.2⟩
theorem ACallQ_no {P : Program} {σ : St} {o : Oper} {wr : D → D} {K : St → Prop} (y : D) (h : K (σ.put o.dst (wr y))) : ACallQ P σ o false wr K := ⟨y, fun q => (by cases q), h⟩
theorem CallQ_no {P : Program} {f : FuncId} {ars : List D} {bs : List Nat} {wr : D → D} {σ : St} {dst : Option Tmp} {K : St → Prop} (h : K (σ.put dst (wr .un))) : CallQ P f ars bs false wr σ dst K := ⟨.un, fun q => (by cases q), h⟩
theorem CallQ_mk {P : Program} {f : FuncId} {ars : List D} {bs : List Nat} {c : Bool} {wr : D → D} {σ : St} {dst : Option Tmp} {K : St → Prop} {r : D} (hF : FCon P f ars (fun r' _ => r' = r)) (h : (c = true → bs = [] ∨ Pure r) ∧ K (σ.put dst (wr (frA r)))) : CallQ P f ars bs c wr σ dst K := ⟨r, fun hc => ⟨hF, h.1 hc⟩, h.2⟩
theorem CallQ_gd {P : Program} {f : FuncId} {ars : List D} {bs : List Nat} {c : Bool} {wr : D → D} {σ : St} {dst : Option Tmp} {K : St → Prop} (r : D) (hF : c = true → FCon P f ars (fun r' _ => r' = r)) (h : (c = true → bs = [] ∨ Pure r) ∧ K (σ.put dst (wr (frA r)))) : CallQ P f ars bs c wr σ dst K := ⟨r, fun hc => ⟨hF hc, h.1 hc⟩, h.2⟩
theorem getD_map {α : Type} (enc : α → List D) (xs : List α) (k : Nat) (h : k < xs.length) : (xs.map enc).getD k [] = enc xs[k] := by
  rw [List.getD_eq_getElem?_getD, List.getElem?_map, List.getElem?_eq_getElem h]; rfl
theorem pIs {y : Option Bool} : y = y := rfl
theorem pure_s (v : Value) : Pure (.s v) = True := eq_true (.s v)
theorem pure_nil : Pure .nil = True := eq_true .nil
theorem pure_un : Pure .un = True := eq_true .un
attribute [go_sem] sp_skip sp_exit sp_ret sp_seq sp_block sp_cond sp_reg sp_drw sp_loop drwV k_tn k_te k_tr k_bn k_br k_be k_rn k_rr ao_nil ao_cons ent_t ent_b put_t put_b put_n sc_t sc_b sc_0 setB_t setB_b fr_t fr_b unf_t unf_b cal_t cal_b op_t op_b ev_t ev_i ev_b ev_s ev_nil ev_np ev_f pure_s pure_nil pure_un
  aqsN_nil aqsN_no aqsN_fl aqsN_fx aqsN_fx1 altK_ap lin_nil lin_cons aPivN aEff aFlQ aqst flF plF condV astep gvCall aopP aop1 aop2 aop3 aopF aopB ACall ACallE aFn aft callQM callQA lift2 aBin aBinI aBinS aUn aLoad ldRow ldC aFieldAddr aField aIndexAddr aIndex aSlice boundE aLen aConv aNil aPick aExtract rowsE intE cellsE cellsD aRows aBuild aFill lay aCaps srcK nmA
  fdC fdL idC idO idsC nodB pOut isP foldB foldM prepC prepL prepA reop argC argL argD aArgs gvL bsL fdB idB deepB deepO frz frzL frC frE frT frO scC scE scT scO unfL unfC unfD unfO pUn nmU refC entL entD entO cellD compD ansO ansB ansN outO inG qCal shC shL shE shM shA lenE lenT frA
  retM aRvs aRv mkRes boxP boxC cellsY gvY gvN gvK treY treL outC outL outD outsA ownB opnS opnB lenA pPar grd gvT dstAt gdT bodyT oblT oblO kmin kmax eqCs
  List.getElem?_toArray List.getElem?_cons_zero List.getElem?_cons_succ List.drop_zero List.drop_succ_cons List.take_zero List.take_succ_cons List.take_nil List.drop_nil List.map_cons List.map_nil List.append_nil List.nil_append List.cons_append List.length_cons List.length_nil List.length_map List.length_append List.all_cons List.all_nil List.any_cons List.any_nil List.filter_cons List.filter_nil List.contains_cons List.contains_nil List.getD_cons_zero List.getD_cons_succ List.getD_nil List.set_cons_zero List.set_cons_succ
  Nat.zero_add Nat.add_zero Option.map_some Option.map_none Option.bind_some Option.bind_none Option.isNone_some Option.isNone_none Option.isSome_some Option.isSome_none Option.getD_some Option.getD_none if_true if_false Bool.false_eq_true true_and and_true and_self false_and and_false true_implies implies_true List.toList_toArray Option.some.injEq Int.toNat_natCast bnil beq_true beq_false imp_self beq_self_eq_true bne_self_eq_false Bool.cond_true_left Bool.cond_true_right Bool.cond_false_left Bool.cond_false_right Bool.true_and Bool.and_true Bool.false_and Bool.and_false Bool.true_or Bool.or_true Bool.false_or Bool.or_false Bool.not_true Bool.not_false forall_const id_eq or_true true_or or_false false_or not_true_eq_false not_false_eq_true decide_true decide_false
end Go.Proofs.Ythkgncddilkmbaa
