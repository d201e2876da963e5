import Derived.Test.YthkgncddilkmbaaGb
import Derived.Laws.StructEq
import Derived.Laws.Cover3
/- The second engine, third part: operations that change nothing. -/
namespace Go.Proofs.Ythkgncddilkmbaa
set_option linter.unusedVariables false
set_option linter.unusedSimpArgs false
open Go.RowKit
theorem Rep.s_inv {S : Nat → Prop} {up : Nat → Option Pos} {w : World} {p : Option Pos} {v u : Value} (h : Rep S up w p (.s v) u) : u = v := by cases h; rfl
theorem Rep.b {S : Nat → Prop} {up : Nat → Option Pos} {w : World} {p : Option Pos} (b : Bool) : Rep S up w p (.s (.bool b)) (.bool b) := .s rfl
theorem Rep.i {S : Nat → Prop} {up : Nat → Option Pos} {w : World} {p : Option Pos} (k : IntKind) (n : Int) : Rep S up w p (.s (.int k n)) (.int k n) := .s rfl
theorem Rep.str {S : Nat → Prop} {up : Nat → Option Pos} {w : World} {p : Option Pos} (s : ByteArray) : Rep S up w p (.s (.string s)) (.string s) := .s rfl
/-- integers. -/
def aBinI (op : BinOp) (k : IntKind) (m n : Int) : Option (Prop × D) := match op with
  | .add => some (kmin k ≤ m + n ∧ m + n ≤ kmax k, .s (.int k (m + n)))
  | .sub => some (kmin k ≤ m - n ∧ m - n ≤ kmax k, .s (.int k (m - n)))
  | .mul => some (kmin k ≤ m * n ∧ m * n ≤ kmax k, .s (.int k (m * n)))
  | .quo => some (n ≠ 0 ∧ kmin k ≤ m.tdiv n ∧ m.tdiv n ≤ kmax k, .s (.int k (m.tdiv n)))
  | .rem => some (n ≠ 0, .s (.int k (m.tmod n)))
  | .eql => some (True, .s (.bool (m == n)))
  | .neq => some (True, .s (.bool (m != n)))
  | .lss => some (True, .s (.bool (decide (m < n))))
  | .leq => some (True, .s (.bool (decide (m ≤ n))))
  | .gtr => some (True, .s (.bool (decide (m > n))))
  | .geq => some (True, .s (.bool (decide (m ≥ n))))
  | _ => none
theorem aBinI_ok {P : Program} {op : BinOp} {t : TypeId} {k : IntKind} {m n : Int} {ob : Prop} {d : D} (h : aBinI op k m n = some (ob, d)) (ho : ob) (xo yo : Operand) (g : Gh) (w : World) :
    ∃ r, (do eqGuard op t xo yo (.int k m) (.int k n); binOp op t (.int k m) (.int k n) : Sem Value).run P w = .ok r w ∧ Rep g.S g.up w none d r := by
  cases op <;> simp only [aBinI] at h <;> try (cases h; done)
  all_goals
    injection h with h
    injection h with h1 h2
    subst h1 h2
  · exact ⟨_, by simp [go_sem, wrap_in k _ ho.1 ho.2], .i _ _⟩
  · exact ⟨_, by simp [go_sem, wrap_in k _ ho.1 ho.2], .i _ _⟩
  · exact ⟨_, by simp [go_sem, wrap_in k _ ho.1 ho.2], .i _ _⟩
  · exact ⟨_, by simp [go_sem, ho.1, wrap_in k _ ho.2.1 ho.2.2], .i _ _⟩
  · exact ⟨_, by simp [go_sem, ho], .i _ _⟩
  all_goals exact ⟨_, by simp [go_sem], .b _⟩
/-- texts. -/
def aBinS (op : BinOp) (x y : ByteArray) : Option (Prop × D) := match op with
  | .add => some (((x.size + y.size : Nat) : Int) ≤ 9223372036854775807, .s (.string (x ++ y)))
  | .eql => some (True, .s (.bool (x.toList == y.toList)))
  | .neq => some (True, .s (.bool (!(x.toList == y.toList))))
  | .lss => some (True, .s (.bool (Op.bytesLess x.toList y.toList)))
  | .leq => some (True, .s (.bool (Op.bytesLess x.toList y.toList || x.toList == y.toList)))
  | .gtr => some (True, .s (.bool (!(Op.bytesLess x.toList y.toList || x.toList == y.toList))))
  | .geq => some (True, .s (.bool (!Op.bytesLess x.toList y.toList)))
  | _ => none
theorem aBinS_ok {P : Program} {op : BinOp} {t : TypeId} {x y : ByteArray} {ob : Prop} {d : D} (h : aBinS op x y = some (ob, d)) (ho : ob) (xo yo : Operand) (g : Gh) (w : World) :
    ∃ r, (do eqGuard op t xo yo (.string x) (.string y); binOp op t (.string x) (.string y) : Sem Value).run P w = .ok r w ∧ Rep g.S g.up w none d r := by
  cases op <;> simp only [aBinS] at h <;> try (cases h; done)
  all_goals
    injection h with h
    injection h with h1 h2
    subst h1 h2
  · refine ⟨_, ?_, .str _⟩
    have : ¬ (9223372036854775807 < ((x.size + y.size : Nat) : Int)) := by omega
    simp only [Sem.run_bind, eqGuard_at_string, Sem.run_pure, Result.andThen_ok, binOp, Op.stringOp, IntKind.max_i64]
    rw [if_neg (by omega)]
    rfl
  all_goals
    refine ⟨_, ?_, .b _⟩
    simp only [Sem.run_bind, eqGuard_at_string, Sem.run_pure, Result.andThen_ok, binOp, Op.stringOp]
def kindB (P : Program) (t : TypeId) : Nat → Bool
  | 0 => match P.underlying t with | some (.int _) => true | _ => false
  | 1 => match P.underlying t with | some .string => true | _ => false
  | _ => match P.underlying t with | some .bool => true | _ => false
def flatB (P : Program) : List Field → Nat → List Nat → Bool
  | [], _, [] => true
  | f :: fs, off, k :: ks => (f.name != "_") && (f.offset == off) && kindB P f.type k && flatB P fs (off + 1) ks
  | _, _, _ => false
def sqB (P : Program) (t : TypeId) (ks : List Nat) : Bool := !P.eqGuardType P.depth t && (match P.underlying t with | some (.struct fs) => !P.stoodInHeld t && flatB P fs.toList 0 ks | _ => false)
theorem ite_some {α : Type} {p : Prop} [Decidable p] {o : Option α} {a : α} (h : (if p then o else none) = some a) : p ∧ o = some a := by
  by_cases q : p
  · exact ⟨q, by rw [if_pos q] at h; exact h⟩
  · rw [if_neg q] at h; cases h
/-- scalars compared one by one: their kinds, and whether all are equal. -/
def eqCs : List D → List D → Option (List Nat × Bool)
  | [], [] => some ([], true)
  | .s (.int k a) :: xs, .s (.int k' b) :: ys => if k = k' then (eqCs xs ys).map fun r => (0 :: r.1, (a == b) && r.2) else none
  | .s (.string a) :: xs, .s (.string b) :: ys => (eqCs xs ys).map fun r => (1 :: r.1, (a.toList == b.toList) && r.2)
  | .s (.bool a) :: xs, .s (.bool b) :: ys => (eqCs xs ys).map fun r => (2 :: r.1, (a == b) && r.2)
  | _, _ => none
theorem kindB_one {P : Program} {t : TypeId} {k : Nat} (h : kindB P t k = true) (w : World) (cs : Array Value) (off : Nat) (v : Value) (hv : cs[off]? = some v) : (part t cs off).run P w = .ok v w := by
  unfold kindB at h
  split at h <;> (split at h <;> try (cases h; done)) <;> (rename_i hu; simp [part, Sem.run_bind, run_isAgg hu, hv, aggT, hu])
theorem eqCs_run {P : Program} {g : Gh} {w : World} (d : Nat) : ∀ (fs : List Field) (xs ys : List D) (us vs : List Value) (ks : List Nat) (r : Bool) (pu pv : List Value), eqCs xs ys = some (ks, r) → flatB P fs pu.length ks = true → pu.length = pv.length →
    RCs g w xs us → RCs g w ys vs → (Op.eqFields (d + 1) (pu ++ us).toArray (pv ++ vs).toArray fs).run P w = .ok r w := by
  intro fs
  induction fs with
  | nil =>
    intro xs ys us vs ks r pu pv h hf hl hx hy
    unfold eqCs at h
    split at h
    · injection h with h; injection h with h1 h2; subst h1 h2; rfl
    all_goals
      first
      | (cases h; done)
      | (obtain ⟨q, -, hq⟩ := Option.map_eq_some_iff.1 h; injection hq with h1 h2; subst h1; cases hf)
      | (split at h <;> first | (cases h; done) | (obtain ⟨q, -, hq⟩ := Option.map_eq_some_iff.1 h; injection hq with h1 h2; subst h1; cases hf))
  | cons f fs ih =>
    intro xs ys us vs ks r pu pv h hf hl hx hy
    have step : ∀ (x y : D) (xs' ys' : List D) (k : Nat) (ks' : List Nat) (b r' : Bool), xs = x :: xs' → ys = y :: ys' → ks = k :: ks' → r = (b && r') → eqCs xs' ys' = some (ks', r') →
        (∀ u v, RC g w none x u → RC g w none y v → kindB P f.type k = true → (Op.equalIn (d + 1) f.type u v).run P w = .ok b w) → (Op.eqFields (d + 1) (pu ++ us).toArray (pv ++ vs).toArray (f :: fs)).run P w = .ok r w := by
      rintro x y xs' ys' k ks' b r' rfl rfl rfl rfl he hq
      obtain ⟨hxl, hx'⟩ := hx
      obtain ⟨hyl, hy'⟩ := hy
      match us, hxl with
      | u :: us, hxl =>
        match vs, hyl with
        | v :: vs, hyl =>
          simp only [flatB, Bool.and_eq_true, bne_iff_ne, ne_eq, beq_iff_eq] at hf
          obtain ⟨⟨⟨f1, f2⟩, f3⟩, f4⟩ := hf
          have pu1 : ((pu ++ u :: us).toArray)[f.offset]? = some u := by rw [f2]; simp
          have pv1 : ((pv ++ v :: vs).toArray)[f.offset]? = some v := by rw [f2, hl]; simp
          have e1 := hq u v (hx' 0 _ _ rfl rfl) (hy' 0 _ _ rfl rfl) f3
          have i1 := ih xs' ys' us vs ks' r' (pu ++ [u]) (pv ++ [v]) he (by simpa using f4) (by simp [hl]) ⟨by simpa using hxl, fun j c z a b => hx' (j + 1) c z (by simpa using a) (by simpa using b)⟩ ⟨by simpa using hyl, fun j c z a b => hy' (j + 1) c z (by simpa using a) (by simpa using b)⟩
          rw [List.append_assoc, List.append_assoc, List.singleton_append, List.singleton_append] at i1
          unfold Op.eqFields
          rw [if_pos f1]
          simp only [Sem.run_bind, kindB_one f3 w _ _ _ pu1, kindB_one f3 w _ _ _ pv1, Result.andThen_ok, e1]
          cases b
          · rfl
          · simp only [Bool.not_true, Bool.false_eq_true, if_false, Bool.true_and]
            exact i1
    unfold eqCs at h
    split at h
    · injection h with h; injection h with h1 h2; subst h1; cases hf
    · obtain ⟨hkk, hm⟩ := ite_some h
      subst hkk
      obtain ⟨q, hq, e⟩ := Option.map_eq_some_iff.1 hm
      injection e with e1 e2
      refine step _ _ _ _ _ _ _ _ rfl rfl e1.symm e2.symm hq fun u v hu hv hk => ?_
      obtain rfl := Rep.s_inv hu
      obtain rfl := Rep.s_inv hv
      simp only [kindB] at hk
      split at hk
      · rename_i hun; exact run_equalIn_int w d _ _ _ _ _ hun
      · cases hk
    · obtain ⟨q, hq, e⟩ := Option.map_eq_some_iff.1 h
      injection e with e1 e2
      refine step _ _ _ _ _ _ _ _ rfl rfl e1.symm e2.symm hq fun u v hu hv hk => ?_
      obtain rfl := Rep.s_inv hu
      obtain rfl := Rep.s_inv hv
      simp only [kindB] at hk
      split at hk
      · rename_i hun; exact run_equalIn_string w d _ _ _ hun
      · cases hk
    · obtain ⟨q, hq, e⟩ := Option.map_eq_some_iff.1 h
      injection e with e1 e2
      refine step _ _ _ _ _ _ _ _ rfl rfl e1.symm e2.symm hq fun u v hu hv hk => ?_
      obtain rfl := Rep.s_inv hu
      obtain rfl := Rep.s_inv hv
      simp only [kindB] at hk
      split at hk
      · rename_i hun; exact run_equalIn_bool' w d _ _ _ hun
      · cases hk
    · cases h
def aBin (P : Program) (op : BinOp) (t : TypeId) (x y : D) : Option (Prop × D) := match x, y with
  | .s (.int k m), .s (.int k' n) => match aBinI op k m n with
    | some (ob, d) => some (k = k' ∧ ob, d)
    | none => none
  | .s (.string a), .s (.string b) => aBinS op a b
  | .s (.bool a), .s (.bool b) => match op with
    | .eql => some (P.underlying t = some .bool, .s (.bool (a == b)))
    | .neq => some (P.underlying t = some .bool, .s (.bool (!(a == b))))
    | _ => none
  | .pt _, .np => match op with
    | .eql => some (∃ e, P.underlying t = some (.pointer e), .s (.bool false))
    | .neq => some (∃ e, P.underlying t = some (.pointer e), .s (.bool true))
    | _ => none
  | .bx _ _, .np => match op with
    | .eql => some (∃ e, P.underlying t = some (.pointer e), .s (.bool false))
    | .neq => some (∃ e, P.underlying t = some (.pointer e), .s (.bool true))
    | _ => none
  | .np, .np => match op with
    | .eql => some (∃ e, P.underlying t = some (.pointer e), .s (.bool true))
    | .neq => some (∃ e, P.underlying t = some (.pointer e), .s (.bool false))
    | _ => none
  | .ag xs, .ag ys => match op, eqCs xs ys with
    | .eql, some (ks, r) => some (sqB P t ks = true, .s (.bool r))
    | .neq, some (ks, r) => some (sqB P t ks = true, .s (.bool (!r)))
    | _, _ => none
  | .sl _ rows, .nil => match op with
    | .eql => some (rows.isEmpty = false ∧ ∃ e, P.underlying t = some (.slice e), .s (.bool false))
    | .neq => some (rows.isEmpty = false ∧ ∃ e, P.underlying t = some (.slice e), .s (.bool true))
    | _ => none
  | .nil, .nil => match op with
    | .eql => some (∃ e, P.underlying t = some (.slice e), .s (.bool true))
    | .neq => some (∃ e, P.underlying t = some (.slice e), .s (.bool false))
    | _ => none
  | _, _ => none
theorem aBin_ok {P : Program} {op : BinOp} {t : TypeId} {x y : D} {ob : Prop} {d : D} (h : aBin P op t x y = some (ob, d)) (ho : ob) {g : Gh} {w : World} {u v : Value} (hx : RE g w x u) (hy : RE g w y v) (xo yo : Operand) :
    ∃ r, (do eqGuard op t xo yo u v; binOp op t u v : Sem Value).run P w = .ok r w ∧ Rep g.S g.up w none d r := by
  unfold aBin at h
  split at h
  · rename_i k m k' n
    split at h
    · rename_i ob' d' h'
      injection h with h; injection h with h1 h2
      subst h1 h2
      obtain ⟨rfl, ho⟩ := ho
      obtain rfl := Rep.s_inv hx
      obtain rfl := Rep.s_inv hy
      exact aBinI_ok h' ho xo yo g w
    · cases h
  · obtain rfl := Rep.s_inv hx
    obtain rfl := Rep.s_inv hy
    exact aBinS_ok h ho xo yo g w
  · obtain rfl := Rep.s_inv hx
    obtain rfl := Rep.s_inv hy
    split at h <;> try (cases h; done)
    all_goals
      injection h with h; injection h with h1 h2
      subst h1 h2
      refine ⟨_, ?_, .b _⟩
      simp only [Sem.run_bind, eqGuard_at_bool, Sem.run_pure, Result.andThen_ok, binOp, run_equal_bool w t _ _ ho]
  · cases hx
    cases hy
    split at h <;> try (cases h; done)
    all_goals
      injection h with h; injection h with h1 h2
      subst h1 h2
      obtain ⟨e, ho⟩ := ho
      refine ⟨_, ?_, .b _⟩
      simp only [Sem.run_bind, eqGuard_at_pointer, Sem.run_pure, Result.andThen_ok, binOp, run_equal_pointer_nil w t _ (show P.underlying t = some (.pointer (P.pointee t)) by unfold Program.pointee; rw [ho])]
      rfl
  · obtain ⟨b, -, rfl⟩ := hx
    cases hy
    split at h <;> try (cases h; done)
    all_goals
      injection h with h; injection h with h1 h2
      subst h1 h2
      obtain ⟨e, ho⟩ := ho
      refine ⟨_, ?_, .b _⟩
      simp only [Sem.run_bind, eqGuard_at_pointer, Sem.run_pure, Result.andThen_ok, binOp, run_equal_pointer_nil w t _ (show P.underlying t = some (.pointer (P.pointee t)) by unfold Program.pointee; rw [ho])]
      rfl
  · cases hx
    cases hy
    split at h <;> try (cases h; done)
    all_goals
      injection h with h; injection h with h1 h2
      subst h1 h2
      obtain ⟨e, ho⟩ := ho
      refine ⟨_, ?_, .b _⟩
      simp only [Sem.run_bind, eqGuard_at_pointer, Sem.run_pure, Result.andThen_ok, binOp, run_equal_pointer_nil w t _ (show P.underlying t = some (.pointer (P.pointee t)) by unfold Program.pointee; rw [ho])]
      rfl
  · rename_i xs ys
    obtain ⟨us, rfl, hx⟩ := hx
    obtain ⟨vs, rfl, hy⟩ := hy
    have key : ∀ ks r, eqCs xs ys = some (ks, r) → sqB P t ks = true → (eqGuard op t xo yo (.agg us.toArray) (.agg vs.toArray)).run P w = .ok () w ∧ (Op.equalIn 10000 t (.agg us.toArray) (.agg vs.toArray)).run P w = .ok r w := by
      intro ks r he hs
      unfold sqB at hs
      simp only [Bool.and_eq_true, Bool.not_eq_true'] at hs
      obtain ⟨s1, s2⟩ := hs
      split at s2
      · rename_i fs hu
        simp only [Bool.and_eq_true, Bool.not_eq_true'] at s2
        have hfs : P.fieldsOf t = fs := by unfold Program.fieldsOf; rw [hu]
        refine ⟨run_eqGuard_agg w op t xo yo _ _ s1, ?_⟩
        rw [run_equalIn_agg w 9999 t _ _ (by rw [hfs]; exact hu) s2.1, hfs]
        have := eqCs_run (P := P) (g := g) (w := w) 9998 fs.toList xs ys us vs ks r [] [] he s2.2 rfl hx hy
        simpa using this
      · cases s2
    split at h
    · rename_i ks r he
      injection h with h; injection h with h1 h2
      subst h1 h2
      obtain ⟨k1, k2⟩ := key ks r he ho
      exact ⟨_, by simp only [Sem.run_bind, k1, Result.andThen_ok, run_eql_struct, k2], .b _⟩
    · rename_i ks r he
      injection h with h; injection h with h1 h2
      subst h1 h2
      obtain ⟨k1, k2⟩ := key ks r he ho
      exact ⟨_, by simp only [Sem.run_bind, k1, Result.andThen_ok, run_neq_struct, k2], .b _⟩
    · cases h
  · rename_i k rows
    have hx : Rep g.S g.up w none (.sl k rows) u := hx
    have hy : Rep g.S g.up w none .nil v := hy
    split at h <;> try (cases h; done)
    all_goals
      injection h with h; injection h with h1 h2
      subst h1 h2
      obtain ⟨hne, e, ho⟩ := ho
      cases hy
      cases hx with
      | sl0 _ => cases hne
      | sl us c1 c2 c3 c4 c5 =>
        refine ⟨_, ?_, .b _⟩
        simp only [Sem.run_bind, eqGuard_at_slice, Sem.run_pure, Result.andThen_ok, binOp, run_equal_slice_nil w t e _ _ _ ho]
        rfl
  · have hx : Rep g.S g.up w none .nil u := hx
    have hy : Rep g.S g.up w none .nil v := hy
    split at h <;> try (cases h; done)
    all_goals
      injection h with h; injection h with h1 h2
      subst h1 h2
      obtain ⟨e, ho⟩ := ho
      cases hy
      cases hx
      refine ⟨_, ?_, .b _⟩
      simp only [Sem.run_bind, eqGuard_at_slice, Sem.run_pure, Result.andThen_ok, binOp, run_equal_slice_nil w t e _ _ _ ho]
      rfl
  · cases h
def aUn (op : UnOp) (x : D) : Option (Prop × D) := match op, x with
  | .not, .s (.bool b) => some (True, .s (.bool (!b)))
  | .neg, .s (.int k n) => some (kmin k ≤ 0 - n ∧ 0 - n ≤ kmax k, .s (.int k (0 - n)))
  | _, _ => none
theorem aUn_ok {P : Program} {op : UnOp} {x : D} {ob : Prop} {d : D} (h : aUn op x = some (ob, d)) (ho : ob) {g : Gh} {w : World} {u : Value} (hx : RE g w x u) :
    ∃ r, (Op.unary op u).run P w = .ok r w ∧ Rep g.S g.up w none d r := by
  unfold aUn at h
  split at h <;> try (cases h; done)
  all_goals
    injection h with h; injection h with h1 h2
    subst h1 h2
    obtain rfl := Rep.s_inv hx
  · exact ⟨_, by simp [Op.unary], .b _⟩
  · exact ⟨_, by simp only [Op.unary, Op.intArith, wrap_in _ _ ho.1 ho.2, Sem.run_pure], .i _ _⟩
theorem add_lit (b o n : Nat) : (⟨b, o, none⟩ : Addr).add n = ⟨b, o + n, none⟩ := Addr.add_lit b o n
theorem getD_of {α : Type} {l : List α} {j : Nat} {x d : α} (h : l[j]? = some x) : l.getD j d = x := by rw [List.getD_eq_getElem?_getD, h]; rfl
theorem agetD_of {α : Type} {l : Array α} {j : Nat} {d : α} (h : j < l.size) : l[j]? = some (l.getD j d) := by rw [Array.getD_eq_getD_getElem?, Array.getElem?_eq_getElem h]; rfl
/-- what a slot sees of an object's cell. -/
def ldC : D → D
  | .osl _ _ _ => .un
  | .opt _ => .un
  | d => d
theorem Rep.free {S : Nat → Prop} {up : Nat → Option Pos} {w : World} {p : Option Pos} {d : D} {v : Value} (h : Rep S up w p d v) (h1 : ∀ e k rows, d ≠ .osl e k rows) (h2 : ∀ row, d ≠ .opt row) (p' : Option Pos) : Rep S up w p' d v := by
  cases h with
  | s h => exact .s h
  | nil => exact .nil
  | np => exact .np
  | sl0 h => exact .sl0 h
  | sl us a b c d e => exact .sl us a b c d e
  | pt us a b => exact .pt us a b
  | fn us a => exact .fn us a
  | osl0 => exact absurd rfl (h1 _ _ _)
  | osl => exact absurd rfl (h1 _ _ _)
  | opt => exact absurd rfl (h2 _)
theorem ldC_ok {g : Gh} {w : World} {p : Option Pos} {d : D} {v : Value} (h : RC g w p d v) : RC g w none (ldC d) v := by
  have one := h.one
  cases d with
  | osl e k rows => exact one
  | opt row => exact one
  | bx id off => exact h
  | el id k i off => exact h
  | bs id k n => exact h
  | un => exact h
  | ag _ => exact h
  | tup _ => exact h
  | mb _ _ => exact h
  | _ => exact (Rep.free (p := p) h (fun _ _ _ q => by cases q) (fun _ q => by cases q) none).rc
/-- cells of memory, seen from a slot. -/
def ldRow (P : Program) (t : TypeId) (row : List D) (off : Nat) : Option (Prop × D) := match ck P t with
  | some (true, n, _) => some (off + n ≤ row.length, .ag (((row.drop off).take n).map ldC))
  | some (false, _, _) => match row.drop off with
    | c :: _ => some (True, ldC c)
    | [] => none
  | none => none
/-- a load. -/
def aLoad (P : Program) (σ : St) (t : TypeId) (x : D) : Option (Prop × D) := match x with
  | .pt row => ldRow P t row 0
  | .bx id off => match σ.b id with
    | some (.box row) => ldRow P t row off
    | _ => none
  | .el id k i off => match σ.b id with
    | some (.arr _ k' rows) => match ldRow P t (rows.getD i []) off with
      | some (ob, y) => some (k' = k ∧ i < rows.length ∧ ob, y)
      | none => none
    | some (.hol _ k' _ i0 c0 r) => match ck P t with
      | some (false, _, _) => some (k' = k ∧ i = i0 ∧ off = c0, ldC r)
      | _ => none
    | _ => none
  | _ => none
theorem ldRow_ok {P : Program} {t : TypeId} {row : List D} {off : Nat} {z : D} {ob : Prop} (h : ldRow P t row off = some (ob, z)) (ho : ob) {g : Gh} {w : World} {b o : Nat} {us : Nat → Value} {ps : Nat → Option Pos}
    (h1 : ∀ (j : Nat) (d : D), row[j]? = some d → w.cell? ⟨b, o + j, none⟩ = some (us j) ∧ RC g w (ps j) d (us j)) :
    ∃ r, (loadVar t ⟨b, o + off, none⟩).run P w = .ok r w ∧ RE g w z r := by
  unfold ldRow at h
  split at h
  · rename_i n _ hk
    injection h with h; injection h with e1 e2
    subst e1 e2
    let cs := (List.range n).map fun j => us (off + j)
    refine ⟨.agg cs.toArray, run_loadVar_row hk w _ cs (by simp [cs]) (fun j v hj => ?_), cs, rfl, by simp [cs, List.length_take, List.length_drop]; omega, fun j y u hy hu => ?_⟩
    · have hjn : j < n := by
        rcases Nat.lt_or_ge j n with q | q
        · exact q
        · rw [List.getElem?_eq_none (by simpa [cs] using q)] at hj; cases hj
      have hv : us (off + j) = v := by simpa [cs, hjn] using hj
      subst hv
      rw [add_lit, Nat.add_assoc]
      exact (h1 (off + j) (row[off + j]'(by omega)) (by simp)).1
    · rw [List.getElem?_map, List.getElem?_take] at hy
      split at hy
      · rename_i hjn
        rw [List.getElem?_drop] at hy
        cases hj : row[off + j]? with
        | none => rw [hj] at hy; cases hy
        | some d =>
          rw [hj] at hy
          injection hy with hy
          subst hy
          have hv : us (off + j) = u := by simpa [cs, hjn] using hu
          subst hv
          exact ldC_ok (h1 _ d hj).2
      · cases hy
  · rename_i n _ hk
    split at h
    · rename_i c row' hd
      injection h with h; injection h with e1 e2
      subst e1 e2
      have hc : row[off]? = some c := by have := congrArg (fun l => l[0]?) hd; simpa using this
      exact ⟨us off, run_loadVar_one hk w _ _ (h1 off c hc).1, (ldC_ok (h1 off c hc).2).re⟩
    · cases h
  · cases h
theorem aLoad_ok {x : Cx} {σ : St} {t : TypeId} {y z : D} {ob : Prop} (h : aLoad x.P σ t y = some (ob, z)) (ho : ob) {g : Gh} {a : Act} {w : World} (hr : Rel x g σ a w) {u : Value} (hu : RE g w y u) :
    ∃ r, (Instr.loadAt t u).run x.P w = .ok r w ∧ RE g w z r := by
  unfold aLoad at h
  split at h
  · have hu : Rep g.S g.up w none (.pt _) u := hu
    cases hu with
    | @pt _ _ b off us h1 h2 =>
      obtain ⟨r, r1, r2⟩ := ldRow_ok (g := g) (w := w) (b := b) (o := off) (us := us) (ps := fun _ => none) h ho (fun j d hj => ⟨(h1 j d hj).2, (h2 j d hj).rc⟩)
      exact ⟨r, by simp only [Instr.loadAt, Sem.run_bind, Instr.sureAddr, Sem.run_pure, Result.andThen_ok]; exact r1, r2⟩
  · rename_i id off
    split at h
    · rename_i row hb
      obtain ⟨b, cs, ty, b1, b2, b3, b4, b5⟩ := hr.ob id _ hb
      obtain ⟨b', c1, rfl⟩ := hu
      rw [b1] at c1; injection c1 with c1; subst c1
      obtain ⟨r, r1, r2⟩ := ldRow_ok (g := g) (w := w) (b := b) (o := 0) (us := fun j => cs.getD j undef) (ps := fun j => some (.cell b j)) h ho (fun j d hj => ⟨by
        have hl : j < cs.size := by rw [b4]; exact (List.getElem?_eq_some_iff.1 hj).1
        simp only [World.cell?, b3, Nat.zero_add]
        rw [if_neg (by simp)]
        exact agetD_of hl, b5 j d hj⟩)
      rw [Nat.zero_add] at r1
      exact ⟨r, by simp only [Instr.loadAt, Sem.run_bind, Instr.sureAddr, Sem.run_pure, Result.andThen_ok]; exact r1, r2⟩
    · cases h
  · rename_i id k i off
    split at h
    · rename_i e k' rows hb
      split at h
      · rename_i ob' y' h'
        injection h with h; injection h with e1 e2
        subst e1 e2
        obtain ⟨rfl, hi, ho⟩ := ho
        have hR := hr.ob id _ hb
        obtain ⟨b', c1, rfl⟩ := hu
        have hR : Rep g.S g.up w (some (.root id)) (.osl e k' rows) (.slice ((g.β id).map fun b => ⟨b, 0, none⟩) rows.length (g.κ id)) := hR
        rw [c1, Option.map_some] at hR
        cases hR with
        | @osl _ _ _ _ _ _ cs q1 q2 q3 q4 q5 q6 q7 =>
          have hg : rows[i]? = some rows[i] := List.getElem?_eq_getElem hi
          rw [getD_of hg] at h'
          obtain ⟨r, r1, r2⟩ := ldRow_ok (g := g) (w := w) (b := b') (o := i * k') (us := fun j => cs.getD (i * k' + j) undef) (ps := fun j => some (.cell b' (i * k' + j))) h' ho (fun j d hj => ⟨by
            have hjk : j < k' := by rw [← q6 i _ hg]; exact (List.getElem?_eq_some_iff.1 hj).1
            have hlt : i * k' + j < cs.size := by
              have h1 : (i + 1) * k' ≤ g.κ id * k' := Nat.mul_le_mul_right _ (by omega)
              rw [Nat.add_mul, Nat.one_mul] at h1
              omega
            simp only [World.cell?, q2]
            rw [if_neg (by simp)]
            exact agetD_of hlt, (q7 i j _ d hg hj).rc⟩)
          exact ⟨r, by simp only [Instr.loadAt, Sem.run_bind, Instr.sureAddr, Sem.run_pure, Result.andThen_ok]; exact r1, r2⟩
      · cases h
    · rename_i e k' rows i0 c0 r hb
      split at h
      · rename_i n _ hk
        injection h with h; injection h with e1 e2
        subst e1 e2
        obtain ⟨rfl, rfl, rfl⟩ := ho
        obtain ⟨b, cs, h1, h2, h3, h4, h5, h6, h7, h8, h9, h10, h11⟩ := hr.ob id _ hb
        obtain ⟨b', c1, rfl⟩ := hu
        rw [h1] at c1; injection c1 with c1; subst c1
        have hlt : i * k' + off < cs.size := by
          have : (i + 1) * k' ≤ g.κ id * k' := Nat.mul_le_mul_right _ (by omega)
          rw [Nat.add_mul, Nat.one_mul] at this
          omega
        refine ⟨_, ?_, (ldC_ok h10).re⟩
        simp only [Instr.loadAt, Sem.run_bind, Instr.sureAddr, Sem.run_pure, Result.andThen_ok]
        refine run_loadVar_one hk w _ _ ?_
        simp only [World.cell?, h3]
        rw [if_neg (by simp)]
        exact agetD_of hlt
      · cases h
    · cases h
  · cases h
end Go.Proofs.Ythkgncddilkmbaa
