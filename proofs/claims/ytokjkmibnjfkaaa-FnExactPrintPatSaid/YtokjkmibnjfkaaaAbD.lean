/- The engine, fourth part: places, parts, lengths. -/
import Derived.Test.YtokjkmibnjfkaaaAbC
namespace Go.Proofs.Ytokjkmibnjfkaaa
set_option linter.unusedVariables false
set_option linter.unusedSimpArgs false
open Go.RowKit
theorem szT_run {P : Program} {t : TypeId} (h : szT P t ≠ 0) (w : World) : (sizeOf t).run P w = .ok (szT P t) w := by
  unfold szT at h ⊢
  cases hi : P.info? t with
  | none => rw [hi] at h; exact absurd rfl h
  | some i => simp [sizeOf, typeInfo, hi]
theorem Rep.pt_drop {S : Seal} {w : World} {row : List D} {b off : Nat} (h : Rep S w (.pt row) (.pointer (some ⟨b, off, none⟩))) (n : Nat) : Rep S w (.pt (row.drop n)) (.pointer (some ⟨b, off + n, none⟩)) := by
  cases h with
  | pt us h1 h2 =>
    refine .pt (fun j => us (n + j)) (fun j d hj => ?_) (fun j d hj => ?_)
    · rw [List.getElem?_drop] at hj
      have := h1 _ _ hj
      rw [← Nat.add_assoc] at this; exact this
    · rw [List.getElem?_drop] at hj
      exact h2 _ _ hj
/-- the place of a field. -/
def aFieldAddr (P : Program) (s : TypeId) (x : E) (f : Nat) : Option (Prop × E) := match tk P s with
  | .st _ fs _ => match fs[f]?, x with
    | some (off, _, _), .d (.pt row) => some (True, .d (.pt (row.drop off)))
    | some (off, _, _), .bx id o => some (True, .bx id (o + off))
    | _, _ => none
  | _ => none
theorem aFieldAddr_ok {P : Program} {s : TypeId} {x y : E} {f : Nat} {ob : Prop} (h : aFieldAddr P s x f = some (ob, y)) {B : Nat} {g : Gh} {w : World} {u : Value} (hu : RE B g w x u) :
    ∃ r, (Instr.fieldAt s u f).run P w = .ok r w ∧ RE B g w y r := by
  unfold aFieldAddr at h
  split at h
  · rename_i n fs z hk
    obtain ⟨fields, i, zv, a1, a2, a3, a4, a5, a6, a7, a8, a9⟩ := tk_st hk
    split at h
    · rename_i off sz ag row hf
      injection h with h; injection h with e1 e2
      subst e1 e2
      rw [a8, List.getElem?_map] at hf
      cases hf' : fields.toList[f]? with
      | none => rw [hf'] at hf; cases hf
      | some fd =>
        rw [hf'] at hf
        injection hf with hf; injection hf with f1 f2; injection f2 with f2 f3
        subst f1
        have hne := (a9 fd (List.mem_of_getElem? hf')).1
        have hu' : Rep g.S w (.pt row) u := hu
        cases u <;> try (cases hu'; done)
        rename_i ad
        cases ad with
        | none => cases hu'
        | some ad =>
          have : ad = ⟨ad.block, ad.off, none⟩ := by cases hu'; rfl
          rw [this] at hu' ⊢
          refine ⟨_, ?_, Rep.pt_drop hu' fd.offset⟩
          simp only [Instr.fieldAt, Sem.run_bind, run_underlying a1, Result.andThen_ok, Array.getElem?_toList ▸ hf', Instr.sureAddr, Sem.run_pure, fieldPlace, szT_run hne]
          rw [if_neg hne]
          simp [Addr.add_lit]
    · rename_i off sz ag id o hf
      injection h with h; injection h with e1 e2
      subst e1 e2
      rw [a8, List.getElem?_map] at hf
      cases hf' : fields.toList[f]? with
      | none => rw [hf'] at hf; cases hf
      | some fd =>
        rw [hf'] at hf
        injection hf with hf; injection hf with f1 f2; injection f2 with f2 f3
        subst f1
        have hne := (a9 fd (List.mem_of_getElem? hf')).1
        have hu' : u = .pointer (some ⟨g.β id, o, none⟩) := hu
        subst hu'
        refine ⟨.pointer (some ⟨g.β id, o + fd.offset, none⟩), ?_, rfl⟩
        simp only [Instr.fieldAt, Sem.run_bind, run_underlying a1, Result.andThen_ok, Array.getElem?_toList ▸ hf', Instr.sureAddr, Sem.run_pure, fieldPlace, szT_run hne]
        rw [if_neg hne]
        simp [Addr.add_lit]
    · cases h
  · cases h
/-- a field of a struct by value. -/
def aField (P : Program) (s : TypeId) (x : E) (f : Nat) : Option (Prop × E) := match tk P s with
  | .st _ fs _ => match fs[f]?, x with
    | some (off, sz, true), .ag xs => some (off + sz ≤ xs.length, .ag ((xs.drop off).take sz))
    | some (off, _, false), .ag xs => match xs.drop off with
      | c :: _ => some (True, cE c)
      | [] => none
    | _, _ => none
  | _ => none
theorem aField_ok {P : Program} {s : TypeId} {x y : E} {f : Nat} {ob : Prop} (h : aField P s x f = some (ob, y)) (ho : ob) {B : Nat} {g : Gh} {w : World} {u : Value} (hu : RE B g w x u) :
    ∃ r, (Instr.field s u f).run P w = .ok r w ∧ RE B g w y r := by
  unfold aField at h
  split at h
  · rename_i n fs z hk
    obtain ⟨fields, i, zv, a1, a2, a3, a4, a5, a6, a7, a8, a9⟩ := tk_st hk
    split at h
    · rename_i off sz xs hf
      injection h with h; injection h with e1 e2
      subst e1 e2
      rw [a8, List.getElem?_map] at hf
      cases hf' : fields.toList[f]? with
      | none => rw [hf'] at hf; cases hf
      | some fd =>
        rw [hf'] at hf
        injection hf with hf; injection hf with f1 f2; injection f2 with f2 f3
        subst f1 f2
        obtain ⟨hne, hsome, -⟩ := a9 fd (List.mem_of_getElem? hf')
        obtain ⟨dd, hd⟩ := Option.isSome_iff_exists.1 hsome
        obtain ⟨us, rfl, h1, h2⟩ := hu
        refine ⟨.agg ((us.drop fd.offset).take (szT P fd.type)).toArray, ?_, _, rfl, by simp [h1], fun j y u hy hu => ?_⟩
        · simp only [Instr.field, Sem.run_bind, run_underlying a1, Result.andThen_ok, Array.getElem?_toList ▸ hf', asAgg, Sem.run_pure, part, run_isAgg hd, f3, if_true, szT_run hne]
          congr 2
          apply Array.ext'
          simp [List.extract_eq_take_drop, Nat.add_sub_cancel_left]
        · rw [List.getElem?_take] at hy hu
          split at hy
          · rename_i hjn
            rw [if_pos hjn] at hu
            rw [List.getElem?_drop] at hy hu
            exact h2 _ _ _ hy hu
          · cases hy
    · rename_i off sz xs hf
      split at h
      · rename_i c row' hd0
        injection h with h; injection h with e1 e2
        subst e1 e2
        rw [a8, List.getElem?_map] at hf
        cases hf' : fields.toList[f]? with
        | none => rw [hf'] at hf; cases hf
        | some fd =>
          rw [hf'] at hf
          injection hf with hf; injection hf with f1 f2; injection f2 with f2 f3
          subst f1 f2
          obtain ⟨hne, hsome, -⟩ := a9 fd (List.mem_of_getElem? hf')
          obtain ⟨dd, hd⟩ := Option.isSome_iff_exists.1 hsome
          obtain ⟨us, rfl, h1, h2⟩ := hu
          have hc : xs[fd.offset]? = some c := by have := congrArg (fun l => l[0]?) hd0; simpa using this
          have hlt : fd.offset < us.length := by rw [h1]; exact (List.getElem?_eq_some_iff.1 hc).1
          refine ⟨us[fd.offset], ?_, cE_ok (h2 _ _ _ hc (List.getElem?_eq_getElem hlt))⟩
          simp only [Instr.field, Sem.run_bind, run_underlying a1, Result.andThen_ok, Array.getElem?_toList ▸ hf', asAgg, Sem.run_pure, part, run_isAgg hd, f3, Bool.false_eq_true, if_false]
          simp [List.getElem?_eq_getElem hlt]
      · cases h
    · cases h
  · cases h
theorem Rep.row {S : Seal} {w : World} {k : Nat} {rows : List (List D)} {a : Option Addr} {n c : Nat} (h : Rep S w (.sl k rows) (.slice a n c)) (i : Nat) (hi : i < rows.length) : ∃ ad, a = some ad ∧ n = rows.length ∧ Rep S w (.pt (rows.getD i [])) (.pointer (some (ad.add (i * k)))) := by
  cases h with
  | sl0 _ => simp at hi
  | @sl _ _ b off c us h1 h2 h3 h4 h5 =>
    refine ⟨_, rfl, rfl, ?_⟩
    have hg : rows[i]? = some rows[i] := List.getElem?_eq_getElem hi
    rw [getD_of hg, add_lit]
    exact .pt (us i) (fun j d hj => h4 i j _ d hg hj) (fun j d hj => h5 i j _ d hg hj)
/-- rows of a slice, however it is held. -/
def rowsE : E → Option (Nat × List (List D))
  | .d (.sl k rows) => some (k, rows)
  | .own _ k rows _ => some (k, rows)
  | _ => none
theorem rowsE_ok {x : E} {k : Nat} {rows : List (List D)} (h : rowsE x = some (k, rows)) {B : Nat} {g : Gh} {w : World} {u : Value} (hu : RE B g w x u) : Rep g.S w (.sl k rows) u := by
  unfold rowsE at h
  split at h
  · injection h with h; injection h with e1 e2; subst e1 e2; exact hu
  · injection h with h; injection h with e1 e2; subst e1 e2; exact OwnR.rep hu
  · cases h
theorem Rep.sl_shape {S : Seal} {w : World} {k : Nat} {rows : List (List D)} {u : Value} (h : Rep S w (.sl k rows) u) : ∃ a c, u = .slice a rows.length c ∧ rows.length ≤ c ∧ c ≤ maxLen := by
  cases h with
  | sl0 h => exact ⟨_, _, rfl, Nat.zero_le _, h⟩
  | sl us h1 h2 h3 h4 h5 => exact ⟨_, _, rfl, h1, h2⟩
def intE : E → Option (IntKind × Int)
  | .d (.s (.int k n)) => some (k, n)
  | _ => none
theorem intE_ok {x : E} {k : IntKind} {n : Int} (h : intE x = some (k, n)) {B : Nat} {g : Gh} {w : World} {u : Value} (hu : RE B g w x u) : u = .int k n := by
  unfold intE at h
  split at h
  · injection h with h; injection h with e1 e2; subst e1 e2; exact Rep.s_inv hu
  · cases h
/-- an element's place. -/
def aIndexAddr (P : Program) (t : TypeId) (x i : E) : Option (Prop × E) := match tk P t, intE i with
  | .sl _ k _ _, some (_, n) => match x with
    | .bs id k' m => some (k' = k ∧ 0 ≤ n ∧ n < (m : Int), .bx id (n.toNat * k'))
    | x => match rowsE x with
      | some (k', rows) => some (k' = k ∧ 0 ≤ n ∧ n < (rows.length : Int), .d (.pt (rows.getD n.toNat [])))
      | none => none
  | _, _ => none
theorem aIndexAddr_ok {P : Program} {t : TypeId} {x i y : E} {ob : Prop} (h : aIndexAddr P t x i = some (ob, y)) (ho : ob) {B : Nat} {g : Gh} {w : World} {u v : Value} (hu : RE B g w x u) (hv : RE B g w i v) :
    ∃ r, (Instr.indexAt t u v).run P w = .ok r w ∧ RE B g w y r := by
  unfold aIndexAddr at h
  split at h
  · rename_i e k b z ik n hk hi
    obtain ⟨hu1, -⟩ := tk_sl hk
    have hel : P.elem t = e := by unfold Program.elem; rw [hu1]
    obtain rfl := intE_ok hi hv
    split at h
    · rename_i id k' m
      injection h with h; injection h with e1 e2
      subst e1 e2
      obtain ⟨rfl, h0, h1⟩ := ho
      obtain ⟨rfl, -⟩ := hu
      refine ⟨.pointer (some ⟨g.β id, n.toNat * k', none⟩), ?_, rfl⟩
      rw [run_indexAt_slice w t _ m m ik n (by rw [hel]; exact hu1), if_pos ⟨h0, h1⟩, hel, tk_slice_len hk]
      simp [Addr.add_lit]
    · split at h
      · rename_i k' rows hx
        injection h with h; injection h with e1 e2
        subst e1 e2
        obtain ⟨rfl, h0, h1⟩ := ho
        have hr := rowsE_ok hx hu
        obtain ⟨a, c, rfl, c1, c2⟩ := hr.sl_shape
        obtain ⟨ad, rfl, -, hp⟩ := hr.row n.toNat (by omega)
        refine ⟨_, ?_, hp⟩
        rw [run_indexAt_slice w t ad rows.length c ik n (by rw [hel]; exact hu1), if_pos ⟨h0, h1⟩, hel, tk_slice_len hk]
        rfl
      · cases h
  · cases h
/-- a byte of a text. -/
def aIndex (P : Program) (t : TypeId) (x i : E) : Option (Prop × D) := match x, intE i with
  | .d (.s (.string s)), some (_, n) => some (P.underlying t = some .string ∧ 0 ≤ n ∧ n < (s.size : Int), .s (.int .u8 ((s.data.toList.getD n.toNat 0).toNat : Int)))
  | _, _ => none
theorem aIndex_ok {P : Program} {t : TypeId} {x i : E} {d : D} {ob : Prop} (h : aIndex P t x i = some (ob, d)) (ho : ob) {B : Nat} {g : Gh} {w : World} {u v : Value} (hu : RE B g w x u) (hv : RE B g w i v) :
    ∃ r, (Instr.index t u v).run P w = .ok r w ∧ Rep g.S w d r := by
  unfold aIndex at h
  split at h
  · rename_i s ik n hi
    injection h with h; injection h with e1 e2
    subst e1 e2
    obtain ⟨h0, h1, h2⟩ := ho
    obtain rfl := Rep.s_inv hu
    obtain rfl := intE_ok hi hv
    refine ⟨_, ?_, .i _ _⟩
    have hlt : n.toNat < s.size := by omega
    have hg : s[n.toNat]? = some s[n.toNat] := by rw [getElem?_pos]
    simp only [Instr.index, asIntOf, Sem.run_bind, Sem.run_pure, Result.andThen_ok, run_underlying h0, if_pos h1, hg]
    have he : s.data.toList.getD n.toNat 0 = s[n.toNat] := by
      have hl : n.toNat < s.data.toList.length := by simpa using hlt
      rw [getD_of (List.getElem?_eq_getElem hl)]; rfl
    rw [he]
  · cases h
end Go.Proofs.Ytokjkmibnjfkaaa
