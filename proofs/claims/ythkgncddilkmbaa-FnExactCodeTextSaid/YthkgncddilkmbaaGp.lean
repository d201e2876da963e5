import Derived.Test.YthkgncddilkmbaaGo
/- The second engine, sixteenth part: a region's operations in the order of the text. -/
namespace Go.Proofs.Ythkgncddilkmbaa
set_option linter.unusedVariables false
set_option linter.unusedSimpArgs false
open Go.RowKit
/-- a program, and how its functions take their arguments: 0 lent, 1 given, 2 frozen. -/
structure Md where
  P : Program
  md : FuncId → List Nat
  mix : P.follows .mixedOrders = true
  lit : Bool := false
  lr : Nat → Bool := fun _ => false
/-- at a region: whether its guards are known. -/
def Md.at (M : Md) (id : Nat) : Md := ⟨M.P, M.md, M.mix, M.lr id, M.lr⟩
theorem Md.at_P (M : Md) (id : Nat) : (M.at id).P = M.P := rfl
theorem Md.at_md (M : Md) (id : Nat) : (M.at id).md = M.md := rfl
theorem Md.at_lit (M : Md) (id : Nat) : (M.at id).lit = M.lr id := rfl
def litB : List Nat → Nat → Bool
  | [], _ => false
  | x :: l, i => (x == i) || litB l i
theorem litB_nil (i : Nat) : litB [] i = false := rfl
theorem litB_cons (x : Nat) (l : List Nat) (i : Nat) : litB (x :: l) i = ((x == i) || litB l i) := rfl
section
variable {x : Cx} {g : Gh} {σ : St} {a : Act} {w : World}
/-- boxes that are given are closed; what is to be frozen is frozen. -/
def prepC (σ : St) (m : Nat) (c : D) : Option (Prop × St) := match idC c with
  | none => some (True, σ)
  | some id => match σ.b id with
    | some (.box _) => match foldB σ id with
      | some (ob, ds, σ') => some (ob, if m = 2 then σ'.fr id (.box ds) else σ')
      | none => none
    | some (.arr e k rows) => some (True, if m = 2 then σ.fr id (.arr e k rows) else σ)
    | _ => none
def prepL (m : Nat) : List D → St → Option (Prop × St)
  | [], σ => some (True, σ)
  | c :: l, σ => match prepC σ m c with
    | some (o1, σ1) => match prepL m l σ1 with
      | some (o2, σ2) => some (o1 ∧ o2, σ2)
      | none => none
    | none => none
def prepA (md : List Nat) : Nat → List Operand → St → Option (Prop × St)
  | _, [], σ => some (True, σ)
  | j, z :: l, σ => if md.getD j 0 = 0 then prepA md (j + 1) l σ else match prepL (md.getD j 0) (cellsD (bodyT (ev σ z))) σ with
    | some (o1, σ1) => match prepA md (j + 1) l σ1 with
      | some (o2, σ2) => some (o1 ∧ o2, σ2)
      | none => none
    | none => none
theorem foldB_box {σ σ' : St} {id : Nat} {ob : Prop} {ds : List D} (h : foldB σ id = some (ob, ds, σ')) : σ'.b id = some (.box ds) ∧ ds.all deepB = true := by
  unfold foldB at h
  split at h
  · split at h
    · rename_i hf
      injection h with h; injection h with e1 e2; injection e2 with e2 e3
      subst e2 e3
      exact ⟨by simp [St.setB], fdL_deep hf⟩
    · cases h
  · cases h
theorem prepC_ok {σ' : St} {m : Nat} {c : D} {ob : Prop} (h : Rel x g σ a w) (hf : prepC σ m c = some (ob, σ')) (ho : ob) : ∃ g', Rel x g' σ' a w := by
  unfold prepC at hf
  split at hf
  · injection hf with hf; injection hf with e1 e2; subst e2; exact ⟨g, h⟩
  · rename_i id hid
    split at hf
    · split at hf
      · rename_i ob' ds σ1 h1
        injection hf with hf; injection hf with e1 e2
        subst e1 e2
        obtain ⟨g1, q1⟩ := h.foldB h1 ho
        split
        · obtain ⟨q2, q3⟩ := foldB_box h1
          exact q1.freeze id (.box ds) q2 q3
        · exact ⟨g1, q1⟩
      · cases hf
    · rename_i e k rows hb
      injection hf with hf; injection hf with e1 e2
      subst e2
      split
      · exact h.freeze id _ hb rfl
      · exact ⟨g, h⟩
    · cases hf
theorem prepL_ok {m : Nat} : ∀ (l : List D) {g : Gh} {σ σ' : St} {ob : Prop}, Rel x g σ a w → prepL m l σ = some (ob, σ') → ob → ∃ g', Rel x g' σ' a w
  | [], g, σ, σ', ob, h, hf, ho => by injection hf with hf; injection hf with e1 e2; subst e2; exact ⟨g, h⟩
  | c :: l, g, σ, σ', ob, h, hf, ho => by
    unfold prepL at hf
    split at hf
    · rename_i o1 σ1 h1
      split at hf
      · rename_i o2 σ2 h2
        injection hf with hf; injection hf with e1 e2
        subst e1 e2
        obtain ⟨g1, q1⟩ := prepC_ok h h1 ho.1
        exact prepL_ok l q1 h2 ho.2
      · cases hf
    · cases hf
theorem prepA_ok {md : List Nat} : ∀ (l : List Operand) (j : Nat) {g : Gh} {σ σ' : St} {ob : Prop}, Rel x g σ a w → prepA md j l σ = some (ob, σ') → ob → ∃ g', Rel x g' σ' a w
  | [], j, g, σ, σ', ob, h, hf, ho => by injection hf with hf; injection hf with e1 e2; subst e2; exact ⟨g, h⟩
  | z :: l, j, g, σ, σ', ob, h, hf, ho => by
    unfold prepA at hf
    split at hf
    · exact prepA_ok l (j + 1) h hf ho
    · split at hf
      · rename_i o1 σ1 h1
        split at hf
        · rename_i o2 σ2 h2
          injection hf with hf; injection hf with e1 e2
          subst e1 e2
          obtain ⟨g1, q1⟩ := prepL_ok _ h h1 ho.1
          exact prepA_ok l (j + 1) q1 h2 ho.2
        · cases hf
      · cases hf
/-- boxes that come back are opened. -/
def reop : List Gv → St → Option (Prop × St)
  | [], σ => some (True, σ)
  | (i, _, _) :: r, σ => match σ.b i with
    | some (.box row) => match reop r (σ.unfB i row) with
      | some (o, σ') => some ((row.all deepB = true ∧ i < 1000000) ∧ o, σ')
      | none => none
    | _ => reop r σ
theorem reop_ok : ∀ (l : List Gv) {g : Gh} {σ σ' : St} {ob : Prop}, Rel x g σ a w → reop l σ = some (ob, σ') → ob → ∃ g', Rel x g' σ' a w
  | [], g, σ, σ', ob, h, hf, ho => by injection hf with hf; injection hf with e1 e2; subst e2; exact ⟨g, h⟩
  | (i, j, l') :: l, g, σ, σ', ob, h, hf, ho => by
    unfold reop at hf
    split at hf
    · rename_i row hb
      split at hf
      · rename_i o σ1 h1
        injection hf with hf; injection hf with e1 e2
        subst e1 e2
        obtain ⟨g1, q1⟩ := h.unfB hb ho.1.1 ho.1.2
        exact reop_ok l q1 h1 ho.2
      · cases hf
    · exact reop_ok l h hf ho
end
/-- a closure over frozen variables. -/
def aCaps (σ : St) : List Operand → Option (Prop × List D)
  | [] => some (True, [])
  | z :: l => match bodyT (ev σ z), aCaps σ l with
    | y, some (ob, ys) => some (oblT (ev σ z) ∧ deepB y = true ∧ ob, y :: ys)
    | _, none => none
def aopF (σ : St) : Op → Option (Prop × D)
  | .makeFunc (.func f) first caps => match first.toList, aCaps σ caps.toList with
    | [], some (ob, ys) => some (ob, .fn f ys)
    | _, _ => none
  | _ => none
theorem RE.deep {g : Gh} {w : World} {y : D} {v : Value} (h : RE g w y v) (hd : deepB y = true) : Rep g.S g.up w none y v := by
  cases y <;> first | exact h | cases hd
theorem aCaps_ok {x : Cx} {σ : St} {g : Gh} {a : Act} {w : World} (hr : Rel x g σ a w) : ∀ (l : List Operand) (ob : Prop) (ys : List D), aCaps σ l = some (ob, ys) → ob → ys.length = l.length ∧ ∀ (j : Nat) (d : D) (u : Value), ys[j]? = some d → (l.map a.eval)[j]? = some u → Rep g.S g.up w none d u
  | [], ob, ys, h, ho => by injection h with h; injection h with e1 e2; subst e2; exact ⟨rfl, fun j d u q => by simp at q⟩
  | z :: l, ob, ys, h, ho => by
    unfold aCaps at h
    split at h
    · rename_i ob' ys' hl
      injection h with h; injection h with e1 e2
      subst e1 e2
      have h1 := (body_ok (ev_ok hr z) ho.1).deep ho.2.1
      obtain ⟨i1, i2⟩ := aCaps_ok hr l ob' ys' hl ho.2.2
      refine ⟨by simp [i1], fun j d u q r => ?_⟩
      cases j with
      | zero => simp at q r; subst q r; exact h1
      | succ j => exact i2 j d u (by simpa using q) (by simpa using r)
    · cases h
theorem aopF_ok {x : Cx} {σ : St} {o : Oper} {ob : Prop} {y : D} (h : aopF σ o.op = some (ob, y)) (ho : ob) {g : Gh} {a : Act} {w : World} (hr : Rel x g σ a w) :
    ∃ r, (execOp a.eval o).run x.P w = .ok (.value r) w ∧ RT g w y r := by
  unfold aopF at h
  split at h
  · rename_i f first caps hop
    split at h
    · rename_i ob' ys h1 h2
      injection h with h; injection h with e1 e2
      subst e1 e2
      have hf : first = #[] := Array.ext' h1
      subst hf
      obtain ⟨c1, c2⟩ := aCaps_ok hr _ _ _ h2 ho
      have hval : (caps.map a.eval) = ((List.range ys.length).map fun j => (caps.toList.map a.eval).getD j undef).toArray := by
        apply Array.ext'
        rw [Array.toList_map]
        apply List.ext_getElem?
        intro j
        rcases Nat.lt_or_ge j ys.length with q | q
        · rw [List.getElem?_map (l := List.range ys.length), List.getElem?_range q, Option.map_some, List.getD_eq_getElem?_getD]
          have hj : j < (caps.toList.map a.eval).length := by rw [List.length_map, ← c1]; exact q
          rw [List.getElem?_eq_getElem hj]; rfl
        · rw [List.getElem?_eq_none (by rw [List.length_map, ← c1]; exact q), List.getElem?_eq_none (by simpa using q)]
      refine ⟨.func (.func f) #[] (caps.map a.eval), ?_, ?_⟩
      · simp only [execOp, hop, Instr.makeFunc, Sem.run_bind, Sem.run_pure, Result.andThen_ok, Array.map_empty]
      · rw [hval]
        refine Rep.rt (Rep.fn _ fun j d hj => ?_)
        have hlt : j < (caps.toList.map a.eval).length := by rw [List.length_map, ← c1]; exact (List.getElem?_eq_some_iff.1 hj).1
        have := c2 j d _ hj (List.getElem?_eq_getElem hlt)
        rw [List.getD_eq_getElem?_getD, List.getElem?_eq_getElem hlt]; exact this
    · cases h
  · cases h
/-- an operation that changes nothing. -/
def aopP (P : Program) (σ : St) (op : Op) : Option (Prop × D) := match aop1 P σ op with
  | some r => some r
  | none => aopF σ op
theorem aopP_ok {x : Cx} {σ : St} {o : Oper} {ob : Prop} {y : D} (h : aopP x.P σ o.op = some (ob, y)) (ho : ob) {g : Gh} {a : Act} {w : World} (hr : Rel x g σ a w) :
    ∃ r, (execOp a.eval o).run x.P w = .ok (.value r) w ∧ RT g w y r := by
  unfold aopP at h
  split at h
  · rename_i r h1
    injection h with h
    subst h
    exact aop1_ok h1 ho hr
  · exact aopF_ok h ho hr
/-- a literal slice that nobody writes; a struct by value. -/
def aopB (P : Program) (σ : St) : Op → Option (Prop × D)
  | .buildSlice t len parts => match tk P t with
    | .sl e k _ _ => match aRows σ k 0 parts.toList with
      | some (ob, rows, raw) => some (ob ∧ parts.toList.length = len ∧ len * k ≤ 16777216 ∧ idsC raw = [], .sl k rows)
      | none => none
    | _ => none
  | .build t parts => match aBuild P σ t parts with
    | some (ob, y) => some (ob, y)
    | none => none
  | _ => none
theorem aopB_ok {x : Cx} {σ : St} {o : Oper} {ob : Prop} {y : D} (h : aopB x.P σ o.op = some (ob, y)) (ho : ob) {g : Gh} {a : Act} {w : World} (hr : Rel x g σ a w) :
    ∃ r w' g', (execOp a.eval o).run x.P w = .ok (.value r) w' ∧ Rel x g' σ a w' ∧ RT g' w' y r := by
  unfold aopB at h
  split at h
  · rename_i t len parts hop
    split at h
    · rename_i e k by_ z hk
      split at h
      · rename_i ob' rows raw h'
        injection h with h; injection h with e1 e2
        subst e1 e2
        obtain ⟨o1, o2, o3, o4⟩ := ho
        obtain ⟨vals, r1, r2, r3, r4, r5⟩ := lit_run hr hk hop h' o1 o2 o3
        have hold : ∀ b, b < w.heap.size → (w.alloc (.cells vals.toArray e)).heap[b]? = w.heap[b]? := fun b hb => Below.heap_alloc _ _ _ hb
        let ga : Gh := ⟨g.β, g.κ, g.up, fun b => g.S b ∨ b = w.heap.size⟩
        have ev : Ev (fun _ => True) (fun p => p) pAll pAll g ga w (w.alloc (.cells vals.toArray e)) := ⟨⟨fun b hb => ⟨.inl hb, hold b (hr.new b hb)⟩, fun b p hb _ => ⟨hb, hold b (hr.own b p hb).1⟩, fun b p o _ _ => ⟨trivial, rfl⟩⟩, fun i _ => ⟨rfl, rfl⟩, fun i _ => ⟨rfl, trivial, rfl⟩⟩
        have hR := hr.ev ev ((Below.refl _ _).alloc (Nat.zero_le _) _) (fun b hb _ => hold b (by have := hr.bel.size; omega)) (fun b hb hs => hs.elim .inl (fun q => by have := hr.bel.size; omega)) (fun b hs => by rw [alloc_size]; exact hs.elim (fun q => by have := hr.new b q; omega) (fun q => by omega)) (fun b p hp => by
          obtain ⟨q1, q2, q3⟩ := hr.own b p hp
          exact ⟨by rw [alloc_size]; omega, q2, fun hs => hs.elim q3 (fun q => by omega)⟩)
        rw [sc_all] at hR
        have hcell : ∀ (i j : Nat) (row : List D) (d : D), rows[i]? = some row → row[j]? = some d → ∃ u, vals[i * k + j]? = some u ∧ Rep g.S g.up w none d u := fun i j row d hi hj => by
          obtain ⟨u, c, q1, q2, q3⟩ := r4 i j row d hi hj
          rcases q3 with ⟨-, q3⟩ | ⟨id, q3, -⟩
          · exact ⟨u, q1, q3⟩
          · have := idsC_mem q2 q3
            rw [o4] at this; cases this
        refine ⟨_, _, ga, r5, hR, Rep.rt ?_⟩
        refine Rep.sl (fun i j => vals.getD (i * k + j) undef) (Nat.le_refl _) r1 r3 (fun i j row d hi hj => ⟨.inr rfl, ?_⟩) (fun i j row d hi hj => ?_)
        · obtain ⟨u, q1, -⟩ := hcell i j row d hi hj
          rw [getD_of q1]
          simp only [World.cell?, alloc_at, Nat.zero_add]
          rw [if_neg (by simp)]
          simpa using q1
        · obtain ⟨u, q1, q2⟩ := hcell i j row d hi hj
          rw [getD_of q1]
          exact Rep.move ev.toMv q2 (fun q hq => by cases hq)
      · cases h
    · cases h
  · rename_i t parts hop
    split at h
    · rename_i ob' y' h'
      injection h with h; injection h with e1 e2
      subst e1 e2
      obtain ⟨r, r1, r2⟩ := aBuild_ok hr h' ho
      refine ⟨r, w, g, ?_, hr, r2.rt⟩
      simp only [execOp, hop, Sem.run_bind, r1]; rfl
    · cases h
  · cases h
/-- the value that a guard gives. -/
def gdT (c : Bool) : D → D
  | .mb c' x => .mb (c && c') x
  | .tup _ => .un
  | x => .mb c x
theorem gdT_true {g : Gh} {w : World} {y : D} {v : Value} (h : RT g w y v) : RT g w (gdT true y) v := by
  cases y with
  | mb c x => exact ⟨fun q => h.1 (by simpa using q), fun q => h.2 (by simpa using q)⟩
  | tup xs => trivial
  | _ => simp only [RT] at h; exact ⟨fun _ => h, fun q => (by cases q)⟩
theorem gdT_false (g : Gh) (w : World) (y : D) : RT g w (gdT false y) undef := by
  cases y with
  | mb c x => exact ⟨fun q => (by cases q), fun _ => rfl⟩
  | tup xs => trivial
  | _ => exact ⟨fun q => (by cases q), fun _ => rfl⟩
def gvT (y : D) (want : Bool) : Option Bool := match y with
  | .s (.bool b) => some (b == want)
  | .mb c (.s (.bool b)) => some (c && (b == want))
  | .mb c .un => match c with
    | false => some false
    | true => none
  | _ => none
def dstAt (ops : Array Oper) (j : Nat) : Option Tmp := (ops[j]?).bind (·.dst)
def grd (ops : Array Oper) (σ : St) (j : Nat) (want : Bool) : Option Bool := match dstAt ops j with
  | some t => gvT (σ.t t) want
  | none => none
/-- the slots that a region writes are slots. -/
def chk (N : Nat) (ops : Array Oper) : Bool := ops.toList.all fun o => match o.dst with
  | some d => decide (d < N) && decide (d < 999)
  | none => true
theorem chk_spec {N : Nat} {ops : Array Oper} (h : chk N ops = true) {j : Nat} {o : Oper} (ho : ops[j]? = some o) {d : Tmp} (hd : o.dst = some d) : d < N ∧ d < 999 := by
  have := List.all_eq_true.1 h o (by rw [← Array.getElem?_toList] at ho; exact List.mem_of_getElem? ho)
  rw [hd] at this
  simpa using this
theorem lt_isP {d : Nat} (h : d < 999) : isP d = false := by
  unfold isP
  simp only [Bool.and_eq_false_iff, decide_eq_false_iff_not]; omega
theorem grd_ok {x : Cx} {g : Gh} {σ : St} {a : Act} {w : World} (hr : Rel x g σ a w) {ops : Array Oper} (hc : chk x.N ops = true) {j : Nat} {want c : Bool} (h : grd ops σ j want = some c) :
    (yielded ops a.tmps j == some want) = c := by
  unfold grd at h
  split at h
  · rename_i t ht
    have htN : t < a.tmps.size := by
      rw [hr.sz]
      unfold dstAt at ht
      cases ho : ops[j]? with
      | none => rw [ho] at ht; cases ht
      | some o => rw [ho] at ht; exact (chk_spec hc ho ht).1
    have hy : yielded ops a.tmps j = match a.tmps.getD t undef with | .bool b => some b | _ => none := by
      unfold yielded
      unfold dstAt at ht
      rw [ht]
      simp only [Option.bind_some, Array.getElem?_eq_getElem htN]
      rw [show a.tmps.getD t undef = a.tmps[t] by rw [Array.getD_eq_getD_getElem?, Array.getElem?_eq_getElem htN]; rfl]
      split <;> rename_i q
      · injection q with q; rw [q]
      · split
        · rename_i b q'; rw [q'] at q; exact absurd rfl (q b)
        · rfl
    have h1 := hr.tm t
    unfold gvT at h
    split at h
    · rename_i b hb
      injection h with h
      rw [hb] at h1
      have hv : a.tmps.getD t undef = .bool b := Rep.s_inv (show Rep g.S g.up w none (.s (.bool b)) _ from h1)
      rw [hy, hv, ← h]
      cases b <;> cases want <;> rfl
    · rename_i c' b hb
      injection h with h
      rw [hb] at h1
      cases c' with
      | true =>
        have hv : a.tmps.getD t undef = .bool b := Rep.s_inv (show Rep g.S g.up w none (.s (.bool b)) _ from h1.1 rfl)
        rw [hy, hv, ← h]
        cases b <;> cases want <;> rfl
      | false =>
        have hv : a.tmps.getD t undef = undef := h1.2 rfl
        rw [hy, hv, ← h]
        cases want <;> rfl
    · rename_i c' hb
      rw [hb] at h1
      cases c' with
      | true => cases h
      | false =>
        injection h with h
        have hv : a.tmps.getD t undef = undef := h1.2 rfl
        rw [hy, hv, ← h]
        cases want <;> rfl
    · cases h
  · cases h
/-! ### calls -/
def aFn (σ : St) : Op → Option (Prop × FuncId × List D × List Operand)
  | .call ⟨.value fo, args, _⟩ => match bodyT (ev σ fo) with
    | .fn f caps => some (oblT (ev σ fo), f, caps, args.toList)
    | _ => none
  | _ => none
/-- a contract is at hand; what follows it. -/
def CallG (P : Program) (f : FuncId) (ars : List D) (bs : List Nat) (K : D → List D → Prop) : Prop := ∃ Rs, FCon P f ars Rs ∧ ∀ r outs, Rs r outs → (bs = [] ∨ (Pure r ∧ ∀ o ∈ outs, Pure o)) ∧ K r outs
def aft (σ : St) (dst : Option Tmp) (gs : List Gv) (K : St → Prop) (r : D) (outs : List D) : Prop :=
  lenT r = true ∧ match reop gs ((σ.cal (dst.getD 999) gs r outs).put dst (shA (dst.getD 999) r)) with
    | some (ob, σ') => ob ∧ K σ'
    | none => False
def ACall (M : Md) (σ : St) (o : Oper) (K : St → Prop) : Prop := match aFn σ o.op with
  | some (_, f0, _, ops0) => match prepA (M.md f0) 0 ops0 σ with
    | some (o1, σ1) => match aFn σ1 o.op with
      | some (o0, f, caps, ops) => match aArgs σ1 (M.md f0) 0 ops with
        | some (o2, ars, gs, bs) => o0 ∧ o1 ∧ o2 ∧ nodB (gvN gs) = true ∧ nodB (gvK gs) = true ∧ bs.all (pOut (gvN gs)) = true ∧ CallG M.P f (ars ++ caps) bs (aft σ1 o.dst gs K)
        | none => False
      | none => False
    | none => False
  | none => False
/-- a quiet call: its answer is frozen; under a guard. -/
def ACallQ (P : Program) (σ : St) (o : Oper) (c : Bool) (wr : D → D) (K : St → Prop) : Prop :=
  ∃ r, (c = true → ∃ d ob f caps ops o2 ars bs r0, o.dst = some d ∧ aFn σ o.op = some (ob, f, caps, ops) ∧ ob ∧ aArgs σ [] 0 ops = some (o2, ars, [], bs) ∧ o2 ∧ FCon P f (ars ++ caps) (fun r _ => r = r0) ∧ (bs = [] ∨ Pure r0) ∧ r = frA r0) ∧ K (σ.put o.dst (wr r))
theorem args_caps {x : Cx} {σ : St} {o : Oper} {ob : Prop} {f : FuncId} {caps : List D} {ops : List Operand} (h : aFn σ o.op = some (ob, f, caps, ops)) (ho : ob) {g : Gh} {a : Act} {w : World} (hr : Rel x g σ a w) :
    ∃ us : List Value, us.length = caps.length ∧ (∀ (j : Nat) (d : D) (u : Value), caps[j]? = some d → us[j]? = some u → Rep g.S g.up w none d u) ∧ (execOp a.eval o).run x.P w = (callFunc f (ops.map a.eval ++ us).toArray).run x.P w := by
  unfold aFn at h
  split at h
  · rename_i fo args ts hop
    split at h
    · rename_i f' caps' hf
      injection h with h; injection h with e1 e2; injection e2 with e2 e3; injection e3 with e3 e4
      subst e1 e2 e3 e4
      have h1 := body_ok (ev_ok hr fo) ho
      rw [hf] at h1
      have h1 : Rep g.S g.up w none (.fn f' caps') (a.eval fo) := h1
      generalize hv : a.eval fo = v at h1
      cases h1 with
      | fn us hus =>
        refine ⟨(List.range caps'.length).map us, by simp, fun j d u hd hu => ?_, ?_⟩
        · rw [List.getElem?_map, List.getElem?_range (List.getElem?_eq_some_iff.1 hd).1] at hu
          injection hu with hu
          subst hu
          exact hus j d hd
        · simp only [execOp, hop, resolve, Sem.run_bind, Deferred.ofValue, hv, Sem.run_pure, Result.andThen_ok, invoke, Array.empty_append]
          congr 2
          apply Array.ext'
          simp
    · cases h
  · cases h
theorem args_all {x : Cx} {g : Gh} {σ : St} {a : Act} {w : World} (h : Rel x g σ a w) {md : List Nat} {ops : List Operand} {o2 : Prop} {ars caps : List D} {gs : List Gv} {bs : List Nat} {us : List Value} (hf : aArgs σ md 0 ops = some (o2, ars, gs, bs)) (ho : o2) (hnd : nodB (gvN gs) = true) (hul : us.length = caps.length) (hus : ∀ (j : Nat) (d : D) (u : Value), caps[j]? = some d → us[j]? = some u → Rep g.S g.up w none d u) :
    (ops.map a.eval ++ us).length = (ars ++ caps).length ∧ (∀ (j : Nat) (d : D) (u : Value), (ars ++ caps)[j]? = some d → (ops.map a.eval ++ us)[j]? = some u → RA (calG g gs bs) w j d u) ∧
      ∀ i j l, (i, j, l) ∈ gs → (∃ o, σ.b i = some o) ∧ ∃ u, (ops.map a.eval ++ us)[j]? = some u ∧ ((∃ k n, RC g w none (.bs i k n) (cellV u l)) ∨ RC g w none (.bx i 0) (cellV u l)) := by
  obtain ⟨a1, a2, a3⟩ := aArgs_ok h (gs := gs) (bs := bs) hnd ops 0 o2 ars gs bs hf ho (fun p hp => hp) (fun i hi => hi)
  refine ⟨by simp [a1, hul], fun j d u hd hu => ?_, fun i j l hi => ?_⟩
  · rcases Nat.lt_or_ge j ars.length with q | q
    · rw [List.getElem?_append_left q] at hd
      rw [List.getElem?_append_left (by rw [List.length_map]; omega)] at hu
      have := a2 j d u hd hu
      rwa [Nat.zero_add] at this
    · rw [List.getElem?_append_right q] at hd
      rw [List.getElem?_append_right (by rw [List.length_map]; omega), List.length_map, ← a1] at hu
      have hr := hus _ d u hd hu
      have m : Mv (fun _ => False) (fun p => p) g (calG g gs bs) w w := ⟨fun b hb => ⟨.inl hb, rfl⟩, fun b p _ q => q.elim, fun b p o _ q => q.elim⟩
      have := (Rep.move m hr (fun q hq => by cases hq)).any (some (.par j 0))
      cases d <;> first | exact this | cases this
  · obtain ⟨-, q1, u, q2, q3⟩ := a3 i j l hi
    rw [Nat.sub_zero] at q2
    refine ⟨q1, u, ?_, q3⟩
    rw [List.getElem?_append_left (List.getElem?_eq_some_iff.1 q2).1]; exact q2
/-- a call whose first argument is given. -/
def gvCall (M : Md) (σ : St) (op : Op) : Bool := match aFn σ op with
  | some (_, f, _, _) => match M.md f with
    | 1 :: _ => true
    | _ => false
  | none => false
def astep (M : Md) (ops : Array Oper) (o : Oper) (σ : St) (K : St → Prop) : Prop := match o.guard with
  | none => match aopP M.P σ o.op with
    | some (ob, y) => ob ∧ K (σ.put o.dst y)
    | none => match aop2 M.P σ o.dst o.op with
      | some (ob, y, σ') => ob ∧ K (σ'.put o.dst y)
      | none => match aop3 M.P σ o.dst o.op with
        | some (ob, y, σ') => ob ∧ K (σ'.put o.dst y)
        | none => ACall M σ o K
  | some (j, want) => match grd ops σ j want with
    | none => False
    | some c => if (M.lit && !c) = true then K (σ.put o.dst (gdT false .un)) else match aopP M.P σ o.op with
      | some (ob, y) => (c = true → ob) ∧ K (σ.put o.dst (gdT c y))
      | none => match aopB M.P σ o.op with
        | some (ob, y) => (c = true → ob) ∧ K (σ.put o.dst (gdT c y))
        | none => match gvCall M σ o.op with
          | true => (c = true → ACall M σ o K) ∧ (c = false → K (σ.put o.dst (gdT false .un)))
          | false => ACallQ M.P σ o c (gdT c) K
def aops (M : Md) (ops : Array Oper) (K : St → Prop) : List Oper → St → Prop
  | [], σ => K σ
  | o :: rest, σ => astep M ops o σ (aops M ops K rest)
theorem callQ_ok {x : Cx} {σ : St} {o : Oper} {r : D} (h : ∃ d ob f caps ops o2 ars bs r0, o.dst = some d ∧ aFn σ o.op = some (ob, f, caps, ops) ∧ ob ∧ aArgs σ [] 0 ops = some (o2, ars, [], bs) ∧ o2 ∧ FCon x.P f (ars ++ caps) (fun r _ => r = r0) ∧ (bs = [] ∨ Pure r0) ∧ r = frA r0) {g : Gh} {a : Act} {w : World} (hr : Rel x g σ a w) {K : Act → World → Prop} {Q : Exit → Act → World → Prop}
    (hK : ∀ v g' w', Rel x g' σ a w' → RT g' w' r v → K (a.put o.dst v) w') : o.wp x.P a w K Q := by
  obtain ⟨d, ob, f, caps, ops, o2, ars, bs, r0, hdst, hcal, hob, harg, ho2, hF, hpu, rfl⟩ := h
  obtain ⟨us, u1, u2, u3⟩ := args_caps hcal hob hr
  obtain ⟨c1, c2, -⟩ := args_all hr harg ho2 rfl u1 u2
  unfold Oper.wp
  rw [u3, hF.ent, Oper.upon_enter]
  refine (hF.run w (calG g [] bs) _ (hr.cal1 _ _) (hr.cal2 (fun b _ => by simp [gvN])) c1 c2).mono ?_
  rintro e w' ⟨v, g', r, outs, rfl, b1, b2, b3, b4, b5, b6, rfl, b7, -⟩
  obtain ⟨ga, q1, q2⟩ := hr.callQ b1 b2 b3 b4 b5 b6 b7 hpu
  exact hK v ga w' q1 q2
theorem call_ok {M : Md} {x : Cx} (hx : x.P = M.P) {σ : St} {o : Oper} {K0 : St → Prop} (h : ACall M σ o K0) (hd : ∀ d, o.dst = some d → d < x.N ∧ d < 999) {g : Gh} {a : Act} {w : World} (hr : Rel x g σ a w) {K : Act → World → Prop} {Q : Exit → Act → World → Prop}
    (hK : ∀ σ' g' a' w', Rel x g' σ' a' w' → K0 σ' → K a' w') : o.wp x.P a w K Q := by
  unfold ACall at h
  split at h
  · split at h
    · rename_i o1 σ1 hprep
      split at h
      · rename_i o0 f caps ops hcal
        split at h
        · rename_i o2 ars gs bs harg
          obtain ⟨h0, h1, h2, h3, h4, h5, Rs, hF, hKK⟩ := h
          obtain ⟨g1, hr1⟩ := prepA_ok _ 0 hr hprep h1
          obtain ⟨us, u1, u2, u3⟩ := args_caps hcal h0 hr1
          obtain ⟨c1, c2, c3⟩ := args_all hr1 harg h2 h3 u1 u2
          have hdis : ∀ b ∈ bs, b ∉ gvN gs := fun b hb hm => pOut_spec (List.all_eq_true.1 h5 b hb) b hm rfl
          unfold Oper.wp
          rw [← hx] at hF
          rw [u3, hF.ent, Oper.upon_enter]
          refine (hF.run w (calG g1 gs bs) _ (hr1.cal1 _ _) (hr1.cal2 hdis) c1 c2).mono ?_
          rintro e w' ⟨v, g', r, outs, rfl, b1, b2, b3, b4, b5, b6, b7, b8, b9⟩
          obtain ⟨hpu, hlen, hre⟩ := hKK r outs b7
          have hdd : o.dst.getD 999 < 1000 := by
            cases hdst : o.dst with
            | none => simp
            | some d => exact Nat.lt_of_lt_of_le (hd d hdst).2 (by decide)
          obtain ⟨ga, q1, q2⟩ := hr1.call hdd h3 h4 hdis c3 b1 b2 b3 b4 b5 b6 b8 b9 hpu hlen
          have q3 := q1.put q2 o.dst (fun d q => (hd d q).1)
          split at hre
          · rename_i ob σ' hro
            obtain ⟨gb, q4⟩ := reop_ok gs q3 hro hre.1
            exact hK _ _ _ _ q4 hre.2
          · exact hre.elim
        · exact h.elim
      · exact h.elim
    · exact h.elim
  · exact h.elim
theorem aops_sound {M : Md} {x : Cx} (hx : x.P = M.P) {ops : Array Oper} (hc : chk x.N ops = true) {K : St → Prop} {Q : Exit → Act → World → Prop} (hQ : ∀ σ' g' a' w', Rel x g' σ' a' w' → K σ' → Q .normal a' w') :
    ∀ (l : List Oper), (∀ o ∈ l, ∀ d, o.dst = some d → d < x.N ∧ d < 999) → ∀ (σ : St) (g : Gh) (a : Act) (w : World), Rel x g σ a w → aops M ops K l σ → wpList x.P ops Q l a w
  | [], _, σ, g, a, w, hr, h => hQ σ g a w hr h
  | o :: rest, hl, σ, g, a, w, hr, h => by
    have ih := aops_sound hx hc hQ rest (fun o' ho' => hl o' (List.mem_cons_of_mem _ ho'))
    have hd := hl o (by simp)
    have hdN : ∀ d, o.dst = some d → d < x.N := fun d q => (hd d q).1
    simp only [aops, astep] at h
    unfold wpList
    split at h
    · rename_i hgd
      rw [if_pos (by simp [Region.wanted, hgd])]
      left
      split at h
      · rename_i ob y hop
        rw [← hx] at hop
        obtain ⟨r, r1, r2⟩ := aopP_ok hop h.1 hr
        unfold Oper.wp
        rw [r1, Oper.upon_value]
        exact ih _ _ _ _ (hr.put r2 o.dst hdN) h.2
      · split at h
        · rename_i ob y σ' hop
          rw [← hx] at hop
          obtain ⟨w', g', r0, r1⟩ := aop2_ok hop h.1 (fun d q => lt_isP (hd d q).2) hr
          unfold Oper.wp
          rcases r1 with ⟨r, r1, r2⟩ | ⟨r1, r2⟩
          · rw [r1, Oper.upon_value]
            exact ih _ _ _ _ (r0.put r2 o.dst hdN) h.2
          · rw [r1, Oper.upon_skip]
            exact ih _ _ _ _ (r0.put (y := y) (v := undef) (by rw [r2]; trivial) o.dst hdN) h.2
        · split at h
          · rename_i ob y σ' hop
            rw [← hx] at hop
            obtain ⟨w', g', r0, r, r1, r2⟩ := aop3_ok hop h.1 (fun d q => lt_isP (hd d q).2) hr
            unfold Oper.wp
            rw [r1, Oper.upon_value]
            exact ih _ _ _ _ (r0.put r2 o.dst hdN) h.2
          · exact call_ok hx h hd hr (fun σ' g' a' w' h1 h2 => ih σ' g' a' w' h1 h2)
    · rename_i j want hgd
      split at h
      · exact h.elim
      · rename_i c hcg
        have hw : Region.wanted o (yielded ops a.tmps) = c := by
          simp only [Region.wanted, hgd]
          exact grd_ok hr hc hcg
        split at h
        · rename_i hl
          have hcf : c = false := by
            cases c with
            | true => simp at hl
            | false => rfl
          subst hcf
          rw [if_neg (by rw [hw]; simp)]
          exact ih _ _ _ _ (hr.put (gdT_false g w _) o.dst hdN) h
        · cases c with
          | true =>
            rw [if_pos hw]
            left
            split at h
            · rename_i ob y hop
              rw [← hx] at hop
              obtain ⟨r, r1, r2⟩ := aopP_ok hop (h.1 rfl) hr
              unfold Oper.wp
              rw [r1, Oper.upon_value]
              exact ih _ _ _ _ (hr.put (gdT_true r2) o.dst hdN) h.2
            · split at h
              · rename_i ob y hop
                rw [← hx] at hop
                obtain ⟨r, w', g', r1, r2, r3⟩ := aopB_ok hop (h.1 rfl) hr
                unfold Oper.wp
                rw [r1, Oper.upon_value]
                exact ih _ _ _ _ (r2.put (gdT_true r3) o.dst hdN) h.2
              · split at h
                · exact call_ok hx (h.1 rfl) hd hr (fun σ' g' a' w' h1 h2 => ih σ' g' a' w' h1 h2)
                · obtain ⟨r0, hF, hK⟩ := h
                  rw [← hx] at hF
                  exact callQ_ok (hF rfl) hr (fun v g' w' h1 h2 => ih _ _ _ _ (h1.put (gdT_true h2) o.dst hdN) hK)
          | false =>
            rw [if_neg (by rw [hw]; simp)]
            split at h
            · exact ih _ _ _ _ (hr.put (gdT_false g w _) o.dst hdN) h.2
            · split at h
              · exact ih _ _ _ _ (hr.put (gdT_false g w _) o.dst hdN) h.2
              · split at h
                · exact ih _ _ _ _ (hr.put (gdT_false g w _) o.dst hdN) (h.2 rfl)
                · obtain ⟨r0, -, hK⟩ := h
                  exact ih _ _ _ _ (hr.put (gdT_false g w _) o.dst hdN) hK
end Go.Proofs.Ythkgncddilkmbaa
