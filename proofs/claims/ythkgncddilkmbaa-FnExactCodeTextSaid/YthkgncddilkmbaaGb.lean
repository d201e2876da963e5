import Derived.Test.YthkgncddilkmbaaGa
/- The second engine, second part: what types say; operands. -/
namespace Go.Proofs.Ythkgncddilkmbaa
set_option linter.unusedVariables false
set_option linter.unusedSimpArgs false
open Go.RowKit
/-- a cell's value as data. -/
def dv : Value → D
  | .slice none 0 0 => .nil
  | .pointer none => .np
  | v => .s v
theorem dv_rep {S : Nat → Prop} {up : Nat → Option Pos} {w : World} {p : Option Pos} (v : Value) (h : v.oneCell' = true) : Rep S up w p (dv v) v := by
  unfold dv
  split
  · exact .nil
  · exact .np
  · exact .s h
inductive TK where
  | sl (e k bytes : Nat) (z : List D)
  | st (n : Nat) (fs : List (Nat × Nat × Bool)) (z : List D)
  | sc (z : D)
  | no
def aggT (P : Program) (t : TypeId) : Bool := match P.underlying t with
  | some (.struct _) | some (.array _ _) => true
  | _ => false
def szT (P : Program) (t : TypeId) : Nat := match P.info? t with
  | some i => i.size
  | none => 0
/-- what is used of a type. -/
def tk (P : Program) (t : TypeId) : TK :=
  match P.underlying t, P.info? t with
  | some (.slice e), some i => match P.info? e with
    | some j => match j.zero, i.zero with
      | some z, some (.slice none 0 0) => if z.cells.size = j.size ∧ 0 < j.size ∧ i.size = 1 ∧ z.cells.toList.all (·.oneCell') = true then .sl e j.size j.bytes (z.cells.toList.map dv) else .no
      | _, _ => .no
    | none => .no
  | some (.struct fs), some i => match i.zero with
    | some (.agg z) => if z.size = i.size ∧ z.toList.all (·.oneCell') = true ∧ fs.toList.all (fun f => decide (szT P f.type ≠ 0) && (P.underlying f.type).isSome && (aggT P f.type || decide (szT P f.type = 1))) = true then
        .st i.size (fs.toList.map fun f => (f.offset, szT P f.type, aggT P f.type)) (z.toList.map dv) else .no
    | _ => .no
  | some (.array _ _), _ => .no
  | some _, some i => match i.zero with
    | some z => if i.size = 1 ∧ z.oneCell' = true then .sc (dv z) else .no
    | none => .no
  | none, _ => .no
  | _, none => .no
/-- cells of one type, whatever: their number, whether they are a struct's, the value before any store. -/
def ck (P : Program) (t : TypeId) : Option (Bool × Nat × List D) := match tk P t with
  | .sl _ _ _ _ => some (false, 1, [.nil])
  | .st n _ z => some (true, n, z)
  | .sc z => some (false, 1, [z])
  | .no => none
theorem tk_sl {P : Program} {t e k b : Nat} {z : List D} (h : tk P t = .sl e k b z) : P.underlying t = some (.slice e) ∧ ∃ i zv, P.info? e = some i ∧ i.zero = some zv ∧ i.size = k ∧ i.bytes = b ∧ zv.cells.size = k ∧ 0 < k ∧
    (∀ u ∈ zv.cells.toList, u.oneCell' = true) ∧ z = zv.cells.toList.map dv ∧ ∃ it, P.info? t = some it ∧ it.size = 1 ∧ it.zero = some (.slice none 0 0) := by
  unfold tk at h
  split at h
  · rename_i e' i h1 h2
    split at h
    · rename_i j h3
      split at h
      · rename_i z' h4 h5
        split at h
        · rename_i hc
          injection h with a1 a2 a3 a4
          subst a1 a2 a3 a4
          exact ⟨h1, j, z', h3, h4, rfl, rfl, hc.1, hc.2.1, List.all_eq_true.1 hc.2.2.2, rfl, i, h2, hc.2.2.1, h5⟩
        · cases h
      · cases h
    · cases h
  · split at h
    · split at h <;> cases h
    · cases h
  · cases h
  · split at h
    · split at h <;> cases h
    · cases h
  · cases h
  · cases h
theorem tk_st {P : Program} {t n : Nat} {fs : List (Nat × Nat × Bool)} {z : List D} (h : tk P t = .st n fs z) : ∃ fields i zv, P.underlying t = some (.struct fields) ∧ P.info? t = some i ∧ i.size = n ∧ i.zero = some (.agg zv) ∧ zv.size = n ∧
    (∀ u ∈ zv.toList, u.oneCell' = true) ∧ z = zv.toList.map dv ∧ fs = fields.toList.map (fun f => (f.offset, szT P f.type, aggT P f.type)) ∧ ∀ f ∈ fields.toList, szT P f.type ≠ 0 ∧ (P.underlying f.type).isSome = true ∧ (aggT P f.type = true ∨ szT P f.type = 1) := by
  unfold tk at h
  split at h
  · split at h
    · split at h
      · split at h <;> cases h
      · cases h
    · cases h
  · rename_i fs' i h1 h2
    split at h
    · rename_i z' h4
      split at h
      · rename_i hc
        injection h with a1 a2 a3
        subst a1 a2 a3
        refine ⟨fs', i, z', h1, h2, rfl, h4, hc.1, List.all_eq_true.1 hc.2.1, rfl, rfl, ?_⟩
        intro f hf
        have := List.all_eq_true.1 hc.2.2 f hf
        simp only [Bool.and_eq_true, Bool.or_eq_true, decide_eq_true_eq] at this
        exact ⟨this.1.1, this.1.2, this.2⟩
      · cases h
    · cases h
  · cases h
  · split at h
    · split at h <;> cases h
    · cases h
  · cases h
  · cases h
theorem tk_sc {P : Program} {t : Nat} {z : D} (h : tk P t = .sc z) : ∃ d i zv, P.underlying t = some d ∧ aggT P t = false ∧ P.info? t = some i ∧ i.size = 1 ∧ i.zero = some zv ∧ zv.oneCell' = true ∧ z = dv zv := by
  unfold tk at h
  split at h
  · split at h
    · split at h
      · split at h <;> cases h
      · cases h
    · cases h
  · split at h
    · split at h <;> cases h
    · cases h
  · cases h
  · rename_i d i n1 n2 n3 h1 h2
    split at h
    · rename_i z' h3
      split at h
      · rename_i hc
        injection h with a1
        subst a1
        refine ⟨d, i, z', h1, ?_, h2, hc.1, h3, hc.2, rfl⟩
        unfold aggT
        rw [h1]
        cases d <;> first | rfl | exact absurd rfl (n2 _) | exact absurd rfl (n3 _ _)
      · cases h
    · cases h
  · cases h
  · cases h
theorem run_isAgg {P : Program} {t : TypeId} {d : TypeDesc} (h : P.underlying t = some d) (w : World) : (isAgg t).run P w = .ok (aggT P t) w := by
  unfold isAgg aggT
  simp only [Sem.run_bind, run_underlying h, Result.andThen_ok, h]
  cases d <;> rfl
/-- what 'ck' says. -/
theorem ck_spec {P : Program} {t n : Nat} {ag : Bool} {z : List D} (h : ck P t = some (ag, n, z)) : (∀ w, (isAgg t).run P w = .ok ag w) ∧ (∃ i zv, P.info? t = some i ∧ i.size = n ∧ i.zero = some zv ∧ zv.cells.size = n ∧ (∀ u ∈ zv.cells.toList, u.oneCell' = true) ∧ z = zv.cells.toList.map dv) ∧ (ag = false → n = 1) := by
  unfold ck at h
  split at h
  · rename_i e k b z' hk
    injection h with h; injection h with h1 h; injection h with h2 h3
    subst h1 h2 h3
    obtain ⟨hu, -, -, -, -, -, -, -, -, -, -, it, i1, i2, i3⟩ := tk_sl hk
    refine ⟨fun w => ?_, ⟨it, _, i1, i2, i3, rfl, ?_, rfl⟩, fun _ => rfl⟩
    · rw [run_isAgg hu]; unfold aggT; rw [hu]
    · intro u hu'
      simp [Value.cells] at hu'
      subst hu'; rfl
  · rename_i n' fs z' hk
    injection h with h; injection h with h1 h; injection h with h2 h3
    subst h1 h2 h3
    obtain ⟨fields, i, zv, a1, a2, a3, a4, a5, a6, a7, -, -⟩ := tk_st hk
    refine ⟨fun w => ?_, ⟨i, _, a2, a3, a4, a5, a6, a7⟩, fun h => by cases h⟩
    rw [run_isAgg a1]; unfold aggT; rw [a1]
  · rename_i z' hk
    injection h with h; injection h with h1 h; injection h with h2 h3
    subst h1 h2 h3
    obtain ⟨d, i, zv, a1, a2, a3, a4, a5, a6, a7⟩ := tk_sc hk
    have hc : zv.cells = #[zv] := by cases zv <;> first | rfl | (simp [Value.oneCell'] at a6)
    refine ⟨fun w => ?_, ⟨i, zv, a3, a4, a5, by rw [hc]; rfl, ?_, by rw [hc, a7]; rfl⟩, fun _ => rfl⟩
    · rw [run_isAgg a1, a2]
    · intro u hu
      rw [hc] at hu
      simp at hu
      subst hu; exact a6
  · cases h
theorem tk_slice_len {P : Program} {t e k b : Nat} {z : List D} (h : tk P t = .sl e k b z) (w : World) : (sizeOf e).run P w = .ok k w := by
  obtain ⟨-, i, zv, h1, -, h2, -⟩ := tk_sl h
  simp [sizeOf, typeInfo, h1, h2]
theorem ck_size {P : Program} {t n : Nat} {ag : Bool} {z : List D} (h : ck P t = some (ag, n, z)) (w : World) : (sizeOf t).run P w = .ok n w := by
  obtain ⟨-, ⟨i, zv, h1, h2, -⟩, -⟩ := ck_spec h
  simp [sizeOf, typeInfo, h1, h2]
/-- reading a variable. -/
theorem run_loadVar_row {P : Program} {t n : Nat} {z : List D} (h : ck P t = some (true, n, z)) (w : World) (ad : Addr) (cs : List Value) (hl : cs.length = n) (hc : ∀ j v, cs[j]? = some v → w.cell? (ad.add j) = some v) :
    (loadVar t ad).run P w = .ok (.agg cs.toArray) w := by
  obtain ⟨h1, -, -⟩ := ck_spec h
  unfold loadVar
  simp only [Sem.run_bind, h1 w, Result.andThen_ok, if_true, ck_size h w]
  have := run_loadCells_list (P := P) w ad cs hc
  rw [hl] at this
  simp [this]
theorem run_loadVar_one {P : Program} {t n : Nat} {z : List D} (h : ck P t = some (false, n, z)) (w : World) (ad : Addr) (v : Value) (hc : w.cell? ad = some v) :
    (loadVar t ad).run P w = .ok v w := by
  obtain ⟨h1, -, -⟩ := ck_spec h
  unfold loadVar
  simp only [Sem.run_bind, h1 w, Result.andThen_ok, Bool.false_eq_true, if_false]
  simp [load, Sem.run, hc]
/-- an operand. -/
def ev (σ : St) : Operand → D
  | .tmp t => σ.t t
  | .const v => if v.oneCell' = true then dv v else .un
  | .func f => .fn f []
  | .global _ => .un
theorem ev_ok {x : Cx} {g : Gh} {σ : St} {a : Act} {w : World} (h : Rel x g σ a w) (o : Operand) : RT g w (ev σ o) (a.eval o) := by
  cases o with
  | tmp t => exact h.tm t
  | const v =>
    simp only [ev]
    split
    · rename_i hv; exact (dv_rep _ hv).rt
    · trivial
  | func f => exact Rep.rt (Rep.fn (fun _ => undef) (fun j d hj => by simp at hj))
  | global _ => trivial
/-- what is asked of an operand that a guard stands before; what it holds. -/
def oblT : D → Prop
  | .mb c _ => c = true
  | _ => True
def bodyT : D → D
  | .mb _ x => x
  | .tup _ => .un
  | d => d
theorem body_ok {g : Gh} {w : World} {y : D} {v : Value} (h : RT g w y v) (ho : oblT y) : RE g w (bodyT y) v := by
  cases y with
  | mb c x => exact h.1 ho
  | tup xs => trivial
  | _ => simp only [RT] at h; exact h
def kmin : IntKind → Int
  | .i8 => -128 | .i16 => -32768 | .i32 => -2147483648 | .i64 => -9223372036854775808 | _ => 0
def kmax : IntKind → Int
  | .i8 => 127 | .i16 => 32767 | .i32 => 2147483647 | .i64 => 9223372036854775807
  | .u8 => 255 | .u16 => 65535 | .u32 => 4294967295 | .u64 => 18446744073709551615
theorem wrap_in (k : IntKind) (n : Int) (h : kmin k ≤ n) (h' : n ≤ kmax k) : k.wrap n = n := by
  cases k <;> simp only [kmin, kmax] at h h' <;> simp [IntKind.wrap, IntKind.bits, IntKind.signed, BitVec.toInt_ofInt, BitVec.toNat_ofInt] <;> (try simp only [Int.bmod]) <;> (try split) <;> omega
end Go.Proofs.Ythkgncddilkmbaa
