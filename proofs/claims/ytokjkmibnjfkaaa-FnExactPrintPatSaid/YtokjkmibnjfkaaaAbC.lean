/- The engine, third part: operations that change nothing. -/
import Derived.Test.YtokjkmibnjfkaaaAbB
namespace Go.Proofs.Ytokjkmibnjfkaaa
set_option linter.unusedVariables false
set_option linter.unusedSimpArgs false
open Go.RowKit
theorem Rep.s_inv {S : Seal} {w : World} {v u : Value} (h : Rep S w (.s v) u) : u = v := by cases h; rfl
theorem Rep.b {S : Seal} {w : World} (b : Bool) : Rep S w (.s (.bool b)) (.bool b) := .s rfl
theorem Rep.i {S : Seal} {w : World} (k : IntKind) (n : Int) : Rep S w (.s (.int k n)) (.int k n) := .s rfl
theorem Rep.str {S : Seal} {w : World} (s : ByteArray) : Rep S w (.s (.string s)) (.string s) := .s rfl
/-- integers. -/
def aBinI (op : BinOp) (k : IntKind) (m n : Int) : Option (Prop × D) := match op with
  | .add => some (kmin k ≤ m + n ∧ m + n ≤ kmax k, .s (.int k (m + n)))
  | .sub => some (kmin k ≤ m - n ∧ m - n ≤ kmax k, .s (.int k (m - n)))
  | .mul => some (kmin k ≤ m * n ∧ m * n ≤ kmax k, .s (.int k (m * n)))
  | .quo => some (n ≠ 0 ∧ kmin k ≤ m.tdiv n ∧ m.tdiv n ≤ kmax k, .s (.int k (m.tdiv n)))
  | .rem => some (n ≠ 0, .s (.int k (m.tmod n)))
  | .eql => some (True, .s (.bool (m == n)))
  | .neq => some (True, .s (.bool (m != n)))
  | .lss => some (True, .s (.bool (decide (m < n))))
  | .leq => some (True, .s (.bool (decide (m ≤ n))))
  | .gtr => some (True, .s (.bool (decide (m > n))))
  | .geq => some (True, .s (.bool (decide (m ≥ n))))
  | _ => none
theorem aBinI_ok {P : Program} {op : BinOp} {t : TypeId} {k : IntKind} {m n : Int} {ob : Prop} {d : D} (h : aBinI op k m n = some (ob, d)) (ho : ob) (xo yo : Operand) (S : Seal) (w : World) :
    ∃ r, (do eqGuard op t xo yo (.int k m) (.int k n); binOp op t (.int k m) (.int k n) : Sem Value).run P w = .ok r w ∧ Rep S w d r := by
  cases op <;> simp only [aBinI] at h <;> try (cases h; done)
  all_goals
    injection h with h
    injection h with h1 h2
    subst h1 h2
  · exact ⟨_, by simp [go_sem, wrap_in k _ ho.1 ho.2], .i _ _⟩
  · exact ⟨_, by simp [go_sem, wrap_in k _ ho.1 ho.2], .i _ _⟩
  · exact ⟨_, by simp [go_sem, wrap_in k _ ho.1 ho.2], .i _ _⟩
  · exact ⟨_, by simp [go_sem, ho.1, wrap_in k _ ho.2.1 ho.2.2], .i _ _⟩
  · exact ⟨_, by simp [go_sem, ho], .i _ _⟩
  all_goals exact ⟨_, by simp [go_sem], .b _⟩
/-- texts. -/
def aBinS (op : BinOp) (x y : ByteArray) : Option (Prop × D) := match op with
  | .add => some (((x.size + y.size : Nat) : Int) ≤ 9223372036854775807, .s (.string (x ++ y)))
  | .eql => some (True, .s (.bool (x.toList == y.toList)))
  | .neq => some (True, .s (.bool (!(x.toList == y.toList))))
  | .lss => some (True, .s (.bool (Op.bytesLess x.toList y.toList)))
  | .leq => some (True, .s (.bool (Op.bytesLess x.toList y.toList || x.toList == y.toList)))
  | .gtr => some (True, .s (.bool (!(Op.bytesLess x.toList y.toList || x.toList == y.toList))))
  | .geq => some (True, .s (.bool (!Op.bytesLess x.toList y.toList)))
  | _ => none
theorem aBinS_ok {P : Program} {op : BinOp} {t : TypeId} {x y : ByteArray} {ob : Prop} {d : D} (h : aBinS op x y = some (ob, d)) (ho : ob) (xo yo : Operand) (S : Seal) (w : World) :
    ∃ r, (do eqGuard op t xo yo (.string x) (.string y); binOp op t (.string x) (.string y) : Sem Value).run P w = .ok r w ∧ Rep S w d r := by
  cases op <;> simp only [aBinS] at h <;> try (cases h; done)
  all_goals
    injection h with h
    injection h with h1 h2
    subst h1 h2
  · refine ⟨_, ?_, .str _⟩
    have : ¬ (9223372036854775807 < ((x.size + y.size : Nat) : Int)) := by omega
    simp only [Sem.run_bind, eqGuard_at_string, Sem.run_pure, Result.andThen_ok, binOp, Op.stringOp, IntKind.max_i64]
    rw [if_neg (by omega)]
    rfl
  all_goals
    refine ⟨_, ?_, .b _⟩
    simp only [Sem.run_bind, eqGuard_at_string, Sem.run_pure, Result.andThen_ok, binOp, Op.stringOp]
def aBin (P : Program) (op : BinOp) (t : TypeId) (x y : E) : Option (Prop × D) := match x, y with
  | .d (.s (.int k m)), .d (.s (.int k' n)) => match aBinI op k m n with
    | some (ob, d) => some (k = k' ∧ ob, d)
    | none => none
  | .d (.s (.string a)), .d (.s (.string b)) => aBinS op a b
  | .d (.s (.bool a)), .d (.s (.bool b)) => match op with
    | .eql => some (P.underlying t = some .bool, .s (.bool (a == b)))
    | .neq => some (P.underlying t = some .bool, .s (.bool (!(a == b))))
    | _ => none
  | .d (.pt _), .d .np => match op with
    | .eql => some (∃ e, P.underlying t = some (.pointer e), .s (.bool false))
    | .neq => some (∃ e, P.underlying t = some (.pointer e), .s (.bool true))
    | _ => none
  | .d .np, .d .np => match op with
    | .eql => some (∃ e, P.underlying t = some (.pointer e), .s (.bool true))
    | .neq => some (∃ e, P.underlying t = some (.pointer e), .s (.bool false))
    | _ => none
  | _, _ => none
theorem aBin_ok {P : Program} {op : BinOp} {t : TypeId} {x y : E} {ob : Prop} {d : D} (h : aBin P op t x y = some (ob, d)) (ho : ob) {B : Nat} {g : Gh} {w : World} {u v : Value} (hx : RE B g w x u) (hy : RE B g w y v) (xo yo : Operand) :
    ∃ r, (do eqGuard op t xo yo u v; binOp op t u v : Sem Value).run P w = .ok r w ∧ Rep g.S w d r := by
  unfold aBin at h
  split at h
  · rename_i k m k' n
    split at h
    · rename_i ob' d' h'
      injection h with h; injection h with h1 h2
      subst h1 h2
      obtain ⟨rfl, ho⟩ := ho
      obtain rfl := Rep.s_inv hx
      obtain rfl := Rep.s_inv hy
      exact aBinI_ok h' ho xo yo g.S w
    · cases h
  · obtain rfl := Rep.s_inv hx
    obtain rfl := Rep.s_inv hy
    exact aBinS_ok h ho xo yo g.S w
  · obtain rfl := Rep.s_inv hx
    obtain rfl := Rep.s_inv hy
    split at h <;> try (cases h; done)
    all_goals
      injection h with h; injection h with h1 h2
      subst h1 h2
      refine ⟨_, ?_, .b _⟩
      simp only [Sem.run_bind, eqGuard_at_bool, Sem.run_pure, Result.andThen_ok, binOp, run_equal_bool w t _ _ ho]
  · cases hx
    cases hy
    split at h <;> try (cases h; done)
    all_goals
      injection h with h; injection h with h1 h2
      subst h1 h2
      obtain ⟨e, ho⟩ := ho
      refine ⟨_, ?_, .b _⟩
      simp only [Sem.run_bind, eqGuard_at_pointer, Sem.run_pure, Result.andThen_ok, binOp, run_equal_pointer_nil w t _ (show P.underlying t = some (.pointer (P.pointee t)) by unfold Program.pointee; rw [ho])]
      rfl
  · cases hx
    cases hy
    split at h <;> try (cases h; done)
    all_goals
      injection h with h; injection h with h1 h2
      subst h1 h2
      obtain ⟨e, ho⟩ := ho
      refine ⟨_, ?_, .b _⟩
      simp only [Sem.run_bind, eqGuard_at_pointer, Sem.run_pure, Result.andThen_ok, binOp, run_equal_pointer_nil w t _ (show P.underlying t = some (.pointer (P.pointee t)) by unfold Program.pointee; rw [ho])]
      rfl
  · cases h
def aUn (op : UnOp) (x : E) : Option (Prop × D) := match op, x with
  | .not, .d (.s (.bool b)) => some (True, .s (.bool (!b)))
  | .neg, .d (.s (.int k n)) => some (kmin k ≤ 0 - n ∧ 0 - n ≤ kmax k, .s (.int k (0 - n)))
  | _, _ => none
theorem aUn_ok {P : Program} {op : UnOp} {x : E} {ob : Prop} {d : D} (h : aUn op x = some (ob, d)) (ho : ob) {B : Nat} {g : Gh} {w : World} {u : Value} (hx : RE B g w x u) :
    ∃ r, (Op.unary op u).run P w = .ok r w ∧ Rep g.S w d r := by
  unfold aUn at h
  split at h <;> try (cases h; done)
  all_goals
    injection h with h; injection h with h1 h2
    subst h1 h2
    obtain rfl := Rep.s_inv hx
  · exact ⟨_, by simp [Op.unary], .b _⟩
  · exact ⟨_, by simp only [Op.unary, Op.intArith, wrap_in _ _ ho.1 ho.2, Sem.run_pure], .i _ _⟩
/-- sealed data of a variable's cell. -/
def cD : C → D
  | .d x => x
  | .own _ k rows _ => .sl k rows
theorem cD_ok {B : Nat} {g : Gh} {w : World} {y : C} {v : Value} (h : RC B g w y v) : Rep g.S w (cD y) v := by
  cases y with
  | d x => exact h
  | own e k rows t => exact OwnR.rep h
def cE : C → E
  | .d x => .d x
  | .own e k rows t => .own e k rows t
theorem cE_ok {B : Nat} {g : Gh} {w : World} {y : C} {v : Value} (h : RC B g w y v) : RE B g w (cE y) v := by cases y <;> exact h
/-- a load. -/
def aLoad (P : Program) (σ : St) (t : TypeId) (x : E) : Option (Prop × E) := match x with
  | .d (.pt row) => match ck P t with
    | some (true, n, _) => some (n ≤ row.length, .ag ((row.take n).map .d))
    | some (false, _, _) => match row with
      | c :: _ => some (True, .d c)
      | [] => none
    | none => none
  | .bx id off => match σ.b id with
    | some row => match ck P t with
      | some (true, n, _) => some (off + n ≤ row.length, .ag ((row.drop off).take n))
      | some (false, _, _) => match row.drop off with
        | c :: _ => some (True, cE c)
        | [] => none
      | none => none
    | none => none
  | _ => none
theorem add_lit (b o n : Nat) : (⟨b, o, none⟩ : Addr).add n = ⟨b, o + n, none⟩ := Addr.add_lit b o n
theorem getD_of {α : Type} {l : List α} {j : Nat} {x d : α} (h : l[j]? = some x) : l.getD j d = x := by rw [List.getD_eq_getElem?_getD, h]; rfl
theorem aLoad_ok {x : Cx} {σ : St} {t : TypeId} {y z : E} {ob : Prop} (h : aLoad x.P σ t y = some (ob, z)) (ho : ob) {g : Gh} {a : Act} {w : World} (hr : Rel x g σ a w) {u : Value} (hu : RE x.B g w y u) :
    ∃ r, (Instr.loadAt t u).run x.P w = .ok r w ∧ RE x.B g w z r := by
  unfold aLoad at h
  split at h
  · rename_i row
    cases hu with
    | @pt _ b off us h1 h2 =>
      simp only [Instr.loadAt, Sem.run_bind, Instr.sureAddr, Sem.run_pure, Result.andThen_ok]
      split at h
      · rename_i n _ hk
        injection h with h; injection h with e1 e2
        subst e1 e2
        let cs := (List.range n).map us
        refine ⟨.agg cs.toArray, run_loadVar_row hk w _ cs (by simp [cs]) (fun j v hj => ?_), cs, rfl, by simp [cs, Nat.min_eq_left ho], fun j y u hy hu => ?_⟩
        · have hjn : j < n := by
            rcases Nat.lt_or_ge j n with q | q
            · exact q
            · rw [List.getElem?_eq_none (by simpa [cs] using q)] at hj; cases hj
          have hv : us j = v := by simpa [cs, hjn] using hj
          subst hv
          rw [add_lit]
          exact (h1 j (row[j]'(by omega)) (by simp)).2
        · rw [List.getElem?_map, List.getElem?_take] at hy
          split at hy
          · rename_i hjn
            cases hj : row[j]? with
            | none => rw [hj] at hy; cases hy
            | some d =>
              rw [hj] at hy
              injection hy with hy
              subst hy
              have hv : us j = u := by simpa [cs, hjn] using hu
              subst hv
              exact h2 j d hj
          · cases hy
      · rename_i n _ hk
        split at h
        · rename_i c row'
          injection h with h; injection h with e1 e2
          subst e1 e2
          exact ⟨us 0, run_loadVar_one hk w _ _ (by have := (h1 0 c rfl).2; simpa using this), h2 0 c rfl⟩
        · cases h
      · cases h
  · rename_i id off
    split at h
    · rename_i row hb
      obtain ⟨b1, b2, ty, us, b3, b4, b5, b6⟩ := hr.bx id row hb
      have hu' : u = .pointer (some ⟨g.β id, off, none⟩) := hu
      subst hu'
      simp only [Instr.loadAt, Sem.run_bind, Instr.sureAddr, Sem.run_pure, Result.andThen_ok]
      have hcell : ∀ j v, us[j]? = some v → w.cell? ⟨g.β id, j, none⟩ = some v := by
        intro j v hj
        simp only [World.cell?, b3]
        rw [if_neg (by simp)]
        simpa using hj
      split at h
      · rename_i n _ hk
        injection h with h; injection h with e1 e2
        subst e1 e2
        refine ⟨.agg ((us.drop off).take n).toArray, run_loadVar_row hk w _ _ (by simp; omega) (fun j v hj => ?_), _, rfl, by simp [b5], fun j y u hy hu => ?_⟩
        · rw [List.getElem?_take] at hj
          split at hj
          · rw [List.getElem?_drop] at hj
            rw [add_lit]; exact hcell _ _ hj
          · cases hj
        · rw [List.getElem?_take] at hy hu
          split at hy
          · rename_i hjn
            rw [if_pos hjn] at hu
            rw [List.getElem?_drop] at hy hu
            exact b6 _ _ _ hy hu
          · cases hy
      · rename_i n _ hk
        split at h
        · rename_i c row' hd
          injection h with h; injection h with e1 e2
          subst e1 e2
          have hc : row[off]? = some c := by have := congrArg (fun l => l[0]?) hd; simpa using this
          have hlt : off < us.length := by rw [b5]; exact (List.getElem?_eq_some_iff.1 hc).1
          have hu0 : us[off]? = some us[off] := List.getElem?_eq_getElem hlt
          exact ⟨us[off], run_loadVar_one hk w _ _ (hcell _ _ hu0), cE_ok (b6 _ _ _ hc hu0)⟩
        · cases h
      · cases h
    · cases h
  · cases h
end Go.Proofs.Ytokjkmibnjfkaaa
