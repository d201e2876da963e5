import Derived.Test.YthkgncddilkmbaaGc
/- The second engine, fourth part: places, parts, lengths. -/
namespace Go.Proofs.Ythkgncddilkmbaa
set_option linter.unusedVariables false
set_option linter.unusedSimpArgs false
open Go.RowKit
theorem szT_run {P : Program} {t : TypeId} (h : szT P t ≠ 0) (w : World) : (sizeOf t).run P w = .ok (szT P t) w := by
  unfold szT at h ⊢
  cases hi : P.info? t with
  | none => rw [hi] at h; exact absurd rfl h
  | some i => simp [sizeOf, typeInfo, hi]
theorem Rep.pt_shape {S : Nat → Prop} {up : Nat → Option Pos} {w : World} {p : Option Pos} {row : List D} {u : Value} (h : Rep S up w p (.pt row) u) : ∃ b off, u = .pointer (some ⟨b, off, none⟩) := by
  cases h with
  | pt us h1 h2 => exact ⟨_, _, rfl⟩
theorem Rep.pt_drop {S : Nat → Prop} {up : Nat → Option Pos} {w : World} {p : Option Pos} {row : List D} {b off : Nat} (h : Rep S up w p (.pt row) (.pointer (some ⟨b, off, none⟩))) (n : Nat) : Rep S up w p (.pt (row.drop n)) (.pointer (some ⟨b, off + n, none⟩)) := by
  cases h with
  | pt us h1 h2 =>
    refine .pt (fun j => us (n + j)) (fun j d hj => ?_) (fun j d hj => ?_)
    · rw [List.getElem?_drop] at hj
      have := h1 _ _ hj
      rw [← Nat.add_assoc] at this; exact this
    · rw [List.getElem?_drop] at hj
      exact h2 _ _ hj
theorem run_fieldAt {P : Program} {s n f off sz : Nat} {fs : List (Nat × Nat × Bool)} {z : List D} {ag : Bool} (hk : tk P s = .st n fs z) (hf : fs[f]? = some (off, sz, ag)) (b o : Nat) (w : World) :
    (Instr.fieldAt s (.pointer (some ⟨b, o, none⟩)) f).run P w = .ok (.pointer (some ⟨b, o + off, none⟩)) w := by
  obtain ⟨fields, i, zv, a1, a2, a3, a4, a5, a6, a7, a8, a9⟩ := tk_st hk
  rw [a8, List.getElem?_map] at hf
  cases hf' : fields.toList[f]? with
  | none => rw [hf'] at hf; cases hf
  | some fd =>
    rw [hf'] at hf
    injection hf with hf; injection hf with f1 f2; injection f2 with f2 f3
    subst f1
    have hne := (a9 fd (List.mem_of_getElem? hf')).1
    simp only [Instr.fieldAt, Sem.run_bind, run_underlying a1, Result.andThen_ok, Array.getElem?_toList ▸ hf', Instr.sureAddr, Sem.run_pure, fieldPlace, szT_run hne]
    rw [if_neg hne]
    simp [Addr.add_lit]
/-- the place of a field. -/
def aFieldAddr (P : Program) (s : TypeId) (x : D) (f : Nat) : Option (Prop × D) := match tk P s with
  | .st _ fs _ => match fs[f]?, x with
    | some (off, _, _), .pt row => some (True, .pt (row.drop off))
    | some (off, _, _), .bx id o => some (True, .bx id (o + off))
    | some (off, _, _), .el id k i o => some (True, .el id k i (o + off))
    | _, _ => none
  | _ => none
theorem aFieldAddr_ok {P : Program} {s : TypeId} {x y : D} {f : Nat} {ob : Prop} (h : aFieldAddr P s x f = some (ob, y)) {g : Gh} {w : World} {u : Value} (hu : RE g w x u) :
    ∃ r, (Instr.fieldAt s u f).run P w = .ok r w ∧ RE g w y r := by
  unfold aFieldAddr at h
  split at h
  · rename_i n fs z hk
    split at h
    · rename_i off sz ag row hf
      injection h with h; injection h with e1 e2
      subst e1 e2
      have hu : Rep g.S g.up w none (.pt row) u := hu
      obtain ⟨b, o, rfl⟩ := hu.pt_shape
      exact ⟨_, run_fieldAt hk hf _ _ w, Rep.pt_drop hu off⟩
    · rename_i off sz ag id o hf
      injection h with h; injection h with e1 e2
      subst e1 e2
      obtain ⟨b, h1, rfl⟩ := hu
      exact ⟨_, run_fieldAt hk hf _ _ w, b, h1, rfl⟩
    · rename_i off sz ag id k i o hf
      injection h with h; injection h with e1 e2
      subst e1 e2
      obtain ⟨b, h1, rfl⟩ := hu
      exact ⟨_, run_fieldAt hk hf _ _ w, b, h1, by rw [Nat.add_assoc]⟩
    · cases h
  · cases h
/-- a field of a struct by value. -/
def aField (P : Program) (s : TypeId) (x : D) (f : Nat) : Option (Prop × D) := match tk P s with
  | .st _ fs _ => match fs[f]?, x with
    | some (off, sz, true), .ag xs => some (off + sz ≤ xs.length, .ag ((xs.drop off).take sz))
    | some (off, _, false), .ag xs => match xs.drop off with
      | c :: _ => some (True, c)
      | [] => none
    | _, _ => none
  | _ => none
theorem aField_ok {P : Program} {s : TypeId} {x y : D} {f : Nat} {ob : Prop} (h : aField P s x f = some (ob, y)) (ho : ob) {g : Gh} {w : World} {u : Value} (hu : RE g w x u) :
    ∃ r, (Instr.field s u f).run P w = .ok r w ∧ RE g w y r := by
  unfold aField at h
  split at h
  · rename_i n fs z hk
    obtain ⟨fields, i, zv, a1, a2, a3, a4, a5, a6, a7, a8, a9⟩ := tk_st hk
    split at h
    · rename_i off sz xs hf
      injection h with h; injection h with e1 e2
      subst e1 e2
      rw [a8, List.getElem?_map] at hf
      cases hf' : fields.toList[f]? with
      | none => rw [hf'] at hf; cases hf
      | some fd =>
        rw [hf'] at hf
        injection hf with hf; injection hf with f1 f2; injection f2 with f2 f3
        subst f1 f2
        obtain ⟨hne, hsome, -⟩ := a9 fd (List.mem_of_getElem? hf')
        obtain ⟨dd, hd⟩ := Option.isSome_iff_exists.1 hsome
        obtain ⟨us, rfl, h1, h2⟩ := hu
        refine ⟨.agg ((us.drop fd.offset).take (szT P fd.type)).toArray, ?_, _, rfl, by simp [h1], fun j y u hy hu => ?_⟩
        · simp only [Instr.field, Sem.run_bind, run_underlying a1, Result.andThen_ok, Array.getElem?_toList ▸ hf', asAgg, Sem.run_pure, part, run_isAgg hd, f3, if_true, szT_run hne]
          congr 2
          apply Array.ext'
          simp [List.extract_eq_take_drop, Nat.add_sub_cancel_left]
        · rw [List.getElem?_take] at hy hu
          split at hy
          · rename_i hjn
            rw [if_pos hjn] at hu
            rw [List.getElem?_drop] at hy hu
            exact h2 _ _ _ hy hu
          · cases hy
    · rename_i off sz xs hf
      split at h
      · rename_i c row' hd0
        injection h with h; injection h with e1 e2
        subst e1 e2
        rw [a8, List.getElem?_map] at hf
        cases hf' : fields.toList[f]? with
        | none => rw [hf'] at hf; cases hf
        | some fd =>
          rw [hf'] at hf
          injection hf with hf; injection hf with f1 f2; injection f2 with f2 f3
          subst f1 f2
          obtain ⟨hne, hsome, -⟩ := a9 fd (List.mem_of_getElem? hf')
          obtain ⟨dd, hd⟩ := Option.isSome_iff_exists.1 hsome
          obtain ⟨us, rfl, h1, h2⟩ := hu
          have hc : xs[fd.offset]? = some c := by have := congrArg (fun l => l[0]?) hd0; simpa using this
          have hlt : fd.offset < us.length := by rw [h1]; exact (List.getElem?_eq_some_iff.1 hc).1
          refine ⟨us[fd.offset], ?_, (h2 _ _ _ hc (List.getElem?_eq_getElem hlt)).re⟩
          simp only [Instr.field, Sem.run_bind, run_underlying a1, Result.andThen_ok, Array.getElem?_toList ▸ hf', asAgg, Sem.run_pure, part, run_isAgg hd, f3, Bool.false_eq_true, if_false]
          simp [List.getElem?_eq_getElem hlt]
      · cases h
    · cases h
  · cases h
theorem Rep.row {S : Nat → Prop} {up : Nat → Option Pos} {w : World} {p : Option Pos} {k : Nat} {rows : List (List D)} {a : Option Addr} {n c : Nat} (h : Rep S up w p (.sl k rows) (.slice a n c)) (i : Nat) (hi : i < rows.length) : ∃ ad, a = some ad ∧ n = rows.length ∧ Rep S up w p (.pt (rows.getD i [])) (.pointer (some (ad.add (i * k)))) := by
  cases h with
  | sl0 _ => simp at hi
  | @sl _ _ _ b off c us h1 h2 h3 h4 h5 =>
    refine ⟨_, rfl, rfl, ?_⟩
    have hg : rows[i]? = some rows[i] := List.getElem?_eq_getElem hi
    rw [getD_of hg, add_lit]
    exact .pt (us i) (fun j d hj => h4 i j _ d hg hj) (fun j d hj => h5 i j _ d hg hj)
/-- rows of a slice, however it is held. -/
def rowsE : D → Option (Nat × List (List D))
  | .sl k rows => some (k, rows)
  | _ => none
theorem rowsE_ok {x : D} {k : Nat} {rows : List (List D)} (h : rowsE x = some (k, rows)) {g : Gh} {w : World} {u : Value} (hu : RE g w x u) : Rep g.S g.up w none (.sl k rows) u := by
  unfold rowsE at h
  split at h
  · injection h with h; injection h with e1 e2; subst e1 e2; exact hu
  · cases h
theorem Rep.sl_shape {S : Nat → Prop} {up : Nat → Option Pos} {w : World} {p : Option Pos} {k : Nat} {rows : List (List D)} {u : Value} (h : Rep S up w p (.sl k rows) u) : ∃ a c, u = .slice a rows.length c ∧ rows.length ≤ c ∧ c ≤ maxLen := by
  cases h with
  | sl0 h => exact ⟨_, _, rfl, Nat.zero_le _, h⟩
  | sl us h1 h2 h3 h4 h5 => exact ⟨_, _, rfl, h1, h2⟩
def intE : D → Option (IntKind × Int)
  | (.s (.int k n)) => some (k, n)
  | _ => none
theorem intE_ok {x : D} {k : IntKind} {n : Int} (h : intE x = some (k, n)) {g : Gh} {w : World} {u : Value} (hu : RE g w x u) : u = .int k n := by
  unfold intE at h
  split at h
  · injection h with h; injection h with e1 e2; subst e1 e2; exact Rep.s_inv hu
  · cases h
/-- an element's place. -/
def aIndexAddr (P : Program) (t : TypeId) (x i : D) : Option (Prop × D) := match tk P t, intE i with
  | .sl _ k _ _, some (_, n) => match x with
    | .bs id k' m => some (k' = k ∧ 0 ≤ n ∧ n < (m : Int), .el id k' n.toNat 0)
    | x => match rowsE x with
      | some (k', rows) => some (k' = k ∧ 0 ≤ n ∧ n < (rows.length : Int), (.pt (rows.getD n.toNat [])))
      | none => none
  | _, _ => none
theorem aIndexAddr_ok {P : Program} {t : TypeId} {x i y : D} {ob : Prop} (h : aIndexAddr P t x i = some (ob, y)) (ho : ob) {g : Gh} {w : World} {u v : Value} (hu : RE g w x u) (hv : RE g w i v) :
    ∃ r, (Instr.indexAt t u v).run P w = .ok r w ∧ RE g w y r := by
  unfold aIndexAddr at h
  split at h
  · rename_i e k b z ik n hk hi
    obtain ⟨hu1, -⟩ := tk_sl hk
    have hel : P.elem t = e := by unfold Program.elem; rw [hu1]
    obtain rfl := intE_ok hi hv
    split at h
    · rename_i id k' m
      injection h with h; injection h with e1 e2
      subst e1 e2
      obtain ⟨rfl, h0, h1⟩ := ho
      obtain ⟨rfl, c1, c2, c3⟩ := hu
      cases hb : g.β id with
      | none => have := c3 hb; omega
      | some b =>
        refine ⟨.pointer (some ⟨b, n.toNat * k' + 0, none⟩), ?_, b, hb, rfl⟩
        rw [Option.map_some, run_indexAt_slice w t _ m _ ik n (by rw [hel]; exact hu1), if_pos ⟨h0, h1⟩, hel, tk_slice_len hk]
        simp [Addr.add_lit]
    · split at h
      · rename_i k' rows hx
        injection h with h; injection h with e1 e2
        subst e1 e2
        obtain ⟨rfl, h0, h1⟩ := ho
        have hr := rowsE_ok hx hu
        obtain ⟨a, c, rfl, c1, c2⟩ := hr.sl_shape
        obtain ⟨ad, rfl, -, hp⟩ := hr.row n.toNat (by omega)
        refine ⟨_, ?_, hp⟩
        rw [run_indexAt_slice w t ad rows.length c ik n (by rw [hel]; exact hu1), if_pos ⟨h0, h1⟩, hel, tk_slice_len hk]
        rfl
      · cases h
  · cases h
/-- a byte of a text. -/
def aIndex (P : Program) (t : TypeId) (x i : D) : Option (Prop × D) := match x, intE i with
  | (.s (.string s)), some (_, n) => some (P.underlying t = some .string ∧ 0 ≤ n ∧ n < (s.size : Int), .s (.int .u8 ((s.data.toList.getD n.toNat 0).toNat : Int)))
  | _, _ => none
theorem aIndex_ok {P : Program} {t : TypeId} {x i : D} {d : D} {ob : Prop} (h : aIndex P t x i = some (ob, d)) (ho : ob) {g : Gh} {w : World} {u v : Value} (hu : RE g w x u) (hv : RE g w i v) :
    ∃ r, (Instr.index t u v).run P w = .ok r w ∧ Rep g.S g.up w none d r := by
  unfold aIndex at h
  split at h
  · rename_i s ik n hi
    injection h with h; injection h with e1 e2
    subst e1 e2
    obtain ⟨h0, h1, h2⟩ := ho
    obtain rfl := Rep.s_inv hu
    obtain rfl := intE_ok hi hv
    refine ⟨_, ?_, .i _ _⟩
    have hlt : n.toNat < s.size := by omega
    have hg : s[n.toNat]? = some s[n.toNat] := by rw [getElem?_pos]
    simp only [Instr.index, asIntOf, Sem.run_bind, Sem.run_pure, Result.andThen_ok, run_underlying h0, if_pos h1, hg]
    have he : s.data.toList.getD n.toNat 0 = s[n.toNat] := by
      have hl : n.toNat < s.data.toList.length := by simpa using hlt
      rw [getD_of (List.getElem?_eq_getElem hl)]; rfl
    rw [he]
  · cases h
def boundE : Option D → Int → Option Int
  | none, n => some n
  | some x, _ => (intE x).map (·.2)
theorem boundE_ok {lo : Option D} {n l : Int} (h : boundE lo n = some l) {g : Gh} {w : World} {lv : Option Value} (hl : lv.isSome = lo.isSome) (hr : ∀ x v, lo = some x → lv = some v → RE g w x v) :
    (lo = none ∧ lv = none ∧ l = n) ∨ ∃ k, lv = some (.int k l) := by
  cases lo with
  | none =>
    left
    cases lv with
    | none => injection h with h; exact ⟨rfl, rfl, h.symm⟩
    | some _ => cases hl
  | some x =>
    right
    cases lv with
    | none => cases hl
    | some v =>
      simp only [boundE, Option.map_eq_some_iff] at h
      obtain ⟨⟨k, m⟩, hm, rfl⟩ := h
      exact ⟨k, by rw [intE_ok hm (hr x v rfl rfl)]⟩
theorem run_bounds {P : Program} {b : Bool} {len cap l h : Nat} {lv hv : Option Value} (hl : (lv = none ∧ l = 0) ∨ ∃ k, lv = some (.int k (l : Int))) (hh : (hv = none ∧ h = len) ∨ ∃ k, hv = some (.int k (h : Int))) (h1 : l ≤ h) (h2 : h ≤ cap) (w : World) :
    (Instr.sliceBounds b len cap lv hv none).run P w = .ok (l, h, cap) w := by
  have e1 : (0 : Int) ≤ (h : Int) ∧ (h : Int) ≤ (cap : Int) := by omega
  have e2 : (0 : Int) ≤ (l : Int) ∧ (l : Int) ≤ (h : Int) := by omega
  rcases hl with ⟨rfl, rfl⟩ | ⟨k, rfl⟩ <;> rcases hh with ⟨rfl, rfl⟩ | ⟨k', rfl⟩ <;>
    simp [Instr.sliceBounds, Instr.sliceBound, asIntOf, e1, e2, h1, h2]
/-- a part of a slice or a text. -/
def aSlice (P : Program) (t : TypeId) (x : D) (lo hi : Option D) : Option (Prop × D) := match x with
  | .sl k' rows => match tk P t, boundE lo 0, boundE hi rows.length with
    | .sl _ k _ _, some l, some h => some (k' = k ∧ 0 ≤ l ∧ l ≤ h ∧ h ≤ (rows.length : Int), .sl k' ((rows.take h.toNat).drop l.toNat))
    | _, _, _ => none
  | .bs id k' n => match tk P t, boundE lo 0, boundE hi n with
    | .sl _ k _ _, some l, some h => some (k' = k ∧ l = 0 ∧ 0 ≤ h ∧ h ≤ (n : Int), .bs id k' h.toNat)
    | _, _, _ => none
  | .s (.string s) => match boundE lo 0, boundE hi s.size with
    | some l, some h => some (P.underlying t = some .string ∧ 0 ≤ l ∧ l ≤ h ∧ h ≤ (s.size : Int), .s (.string (s.extract l.toNat h.toNat)))
    | _, _ => none
  | _ => none
theorem Rep.part {S : Nat → Prop} {up : Nat → Option Pos} {w : World} {p : Option Pos} {k : Nat} {rows : List (List D)} {a : Option Addr} {n c : Nat} (hr : Rep S up w p (.sl k rows) (.slice a n c)) (l h : Nat) (h1 : l ≤ h) (h2 : h ≤ rows.length) :
    Rep S up w p (.sl k ((rows.take h).drop l)) (.slice (if c = l then a else a.map (·.add (l * k))) (h - l) (c - l)) := by
  have hlen : ((rows.take h).drop l).length = h - l := by rw [List.length_drop, List.length_take, Nat.min_eq_left h2]
  cases hr with
  | sl0 hc =>
    have e0 : h = 0 ∧ l = 0 := by simp at h2; omega
    obtain ⟨rfl, rfl⟩ := e0
    exact .sl0 (by omega)
  | @sl _ _ _ b off c us c1 c2 c3 c4 c5 =>
    by_cases e : h = l
    · subst e
      have : (rows.take h).drop h = [] := List.eq_nil_of_length_eq_zero (by rw [hlen]; omega)
      rw [this, Nat.sub_self]
      exact .sl0 (by omega)
    · have hne : ¬ c = l := by omega
      rw [if_neg hne, Option.map_some, add_lit, ← hlen]
      have hg : ∀ (i : Nat) (row : List D), ((rows.take h).drop l)[i]? = some row → rows[l + i]? = some row := by
        intro i row hi
        rw [List.getElem?_drop, List.getElem?_take] at hi
        split at hi
        · exact hi
        · cases hi
      refine .sl (fun i j => us (l + i) j) (by rw [hlen]; omega) (by omega) (fun i row hi => c3 _ row (hg i row hi)) (fun i j row d hi hj => ?_) (fun i j row d hi hj => c5 _ j row d (hg i row hi) hj)
      have := c4 (l + i) j row d (hg i row hi) hj
      rw [Nat.add_mul, ← Nat.add_assoc] at this
      exact this
theorem aSlice_ok {P : Program} {t : TypeId} {x y : D} {lo hi : Option D} {ob : Prop} (h : aSlice P t x lo hi = some (ob, y)) (ho : ob) {g : Gh} {w : World} {u : Value} (hu : RE g w x u) {lv hv : Option Value}
    (hl1 : lv.isSome = lo.isSome) (hl2 : ∀ x v, lo = some x → lv = some v → RE g w x v) (hh1 : hv.isSome = hi.isSome) (hh2 : ∀ x v, hi = some x → hv = some v → RE g w x v) :
    ∃ r, (Instr.sliceAt t u lv hv none).run P w = .ok r w ∧ RE g w y r := by
  unfold aSlice at h
  split at h
  · rename_i k' rows
    split at h
    · rename_i e k b z l hh hk bl bh
      injection h with h; injection h with e1 e2
      subst e1 e2
      obtain ⟨rfl, o1, o2, o3⟩ := ho
      have hr : Rep g.S g.up w none (.sl k' rows) u := hu
      obtain ⟨a, c, rfl, c1, c2⟩ := hr.sl_shape
      obtain ⟨hu1, -⟩ := tk_sl hk
      obtain ⟨l, rfl⟩ := Int.eq_ofNat_of_zero_le o1
      obtain ⟨hh, rfl⟩ := Int.eq_ofNat_of_zero_le (Int.le_trans o1 o2)
      have b1 := boundE_ok bl hl1 hl2
      have b2 := boundE_ok bh hh1 hh2
      simp only [Int.toNat_natCast] at *
      refine ⟨_, ?_, Rep.part hr l hh (by omega) (by omega)⟩
      have hb := run_bounds (P := P) (b := true) (len := rows.length) (cap := c) (l := l) (h := hh) (lv := lv) (hv := hv) (b1.imp (fun q => ⟨q.2.1, by omega⟩) id) (b2.imp (fun q => ⟨q.2.1, by omega⟩) id) (by omega) (by omega) w
      simp only [Instr.sliceAt, Sem.run_bind, run_underlying hu1, Result.andThen_ok, Instr.slice, hb, tk_slice_len hk, Sem.run_pure]
    · cases h
  · rename_i nm k' n
    split at h
    · rename_i e k b z l hh hk bl bh
      injection h with h; injection h with e1 e2
      subst e1 e2
      obtain ⟨rfl, rfl, o2, o3⟩ := ho
      obtain ⟨rfl, c1, c2, c3⟩ := hu
      obtain ⟨hu1, -⟩ := tk_sl hk
      obtain ⟨hh, rfl⟩ := Int.eq_ofNat_of_zero_le o2
      have b1 := boundE_ok bl hl1 hl2
      have b2 := boundE_ok bh hh1 hh2
      simp only [Int.toNat_natCast] at *
      refine ⟨.slice ((g.β nm).map fun b => ⟨b, 0, none⟩) hh (g.κ nm), ?_, rfl, by omega, c2, c3⟩
      have hb := run_bounds (P := P) (b := true) (len := n) (cap := g.κ nm) (l := 0) (h := hh) (lv := lv) (hv := hv) (b1.imp (fun q => ⟨q.2.1, by omega⟩) id) (b2.imp (fun q => ⟨q.2.1, by omega⟩) id) (by omega) (by omega) w
      simp only [Instr.sliceAt, Sem.run_bind, run_underlying hu1, Result.andThen_ok, Instr.slice, hb, tk_slice_len hk, Sem.run_pure]
      cases g.β nm <;> simp [Addr.add_lit]
    · cases h
  · rename_i s
    split at h
    · rename_i l hh bl bh
      injection h with h; injection h with e1 e2
      subst e1 e2
      obtain ⟨ht, o1, o2, o3⟩ := ho
      obtain rfl := Rep.s_inv hu
      obtain ⟨l, rfl⟩ := Int.eq_ofNat_of_zero_le o1
      obtain ⟨hh, rfl⟩ := Int.eq_ofNat_of_zero_le (Int.le_trans o1 o2)
      have b1 := boundE_ok bl hl1 hl2
      have b2 := boundE_ok bh hh1 hh2
      simp only [Int.toNat_natCast] at *
      refine ⟨_, ?_, .str _⟩
      have hb := run_bounds (P := P) (b := false) (len := s.size) (cap := s.size) (l := l) (h := hh) (lv := lv) (hv := hv) (b1.imp (fun q => ⟨q.2.1, by omega⟩) id) (b2.imp (fun q => ⟨q.2.1, by omega⟩) id) (by omega) (by omega) w
      simp only [Instr.sliceAt, Sem.run_bind, run_underlying ht, Result.andThen_ok, Instr.slice, Option.isSome_none, Bool.false_eq_true, if_false, Sem.run_pure, hb]
    · cases h
  · cases h
/-- a length. -/
def aLen (P : Program) (t : TypeId) (x : D) : Option (Prop × D) := match x with
  | (.s (.string s)) => some (P.underlying t = some .string, .s (.int .i64 s.size))
  | .nil => some (P.underlying t = some (.slice (P.elem t)), .s (.int .i64 0))
  | (.sl _ rows) => some (P.underlying t = some (.slice (P.elem t)), .s (.int .i64 rows.length))
  | .bs _ _ n => some (P.underlying t = some (.slice (P.elem t)), .s (.int .i64 n))
  | _ => none
theorem aLen_ok {P : Program} {t ty : TypeId} {x : D} {d : D} {ob : Prop} (h : aLen P t x = some (ob, d)) (ho : ob) {g : Gh} {w : World} {u : Value} (hu : RE g w x u) :
    ∃ r, (Builtin.len_ #[t] ty #[u]).run P w = .ok r w ∧ Rep g.S g.up w none d r := by
  unfold aLen at h
  split at h
  · injection h with h; injection h with e1 e2
    subst e1 e2
    obtain rfl := Rep.s_inv hu
    exact ⟨_, by simp [Builtin.len_, run_underlying ho]; rfl, .i _ _⟩
  · injection h with h; injection h with e1 e2
    subst e1 e2
    cases hu
    exact ⟨_, run_len_slice w t ty _ _ _ ho, .i _ _⟩
  · injection h with h; injection h with e1 e2
    subst e1 e2
    obtain ⟨a, c, rfl, -⟩ := Rep.sl_shape hu
    exact ⟨_, run_len_slice w t ty _ _ _ ho, .i _ _⟩
  · injection h with h; injection h with e1 e2
    subst e1 e2
    obtain ⟨rfl, -⟩ := hu
    exact ⟨_, run_len_slice w t ty _ _ _ ho, .i _ _⟩
  · cases h
/-- a number of another kind. -/
def aConv (P : Program) (src dst : TypeId) (x : D) : Option (Prop × D) := match intE x with
  | some (_, n) => some ((P.underlying src).isSome = true ∧ P.underlying dst = some (.int (P.intKind dst)) ∧ kmin (P.intKind dst) ≤ n ∧ n ≤ kmax (P.intKind dst), .s (.int (P.intKind dst) n))
  | none => none
theorem aConv_ok {P : Program} {src dst : TypeId} {x : D} {d : D} {ob : Prop} (h : aConv P src dst x = some (ob, d)) (ho : ob) {g : Gh} {w : World} {u : Value} (hu : RE g w x u) :
    ∃ r, (convert src dst u).run P w = .ok r w ∧ Rep g.S g.up w none d r := by
  unfold aConv at h
  split at h
  · rename_i k n hx
    injection h with h; injection h with e1 e2
    subst e1 e2
    obtain rfl := intE_ok hx hu
    refine ⟨_, ?_, .i _ _⟩
    rw [run_convert_int w src dst k n ho.1 ho.2.1, wrap_in _ _ ho.2.2.1 ho.2.2.2]
  · cases h
def aNil (x : D) : Option (Prop × D) := match x with
  | .pt row => some (True, .pt row)
  | .bx id o => some (True, .bx id o)
  | .el id k i o => some (True, .el id k i o)
  | .fn f cs => some (True, .fn f cs)
  | _ => none
def lift2 (o1 o2 : Prop) : Option (Prop × D) → Option (Prop × D)
  | some (ob, d) => some (o1 ∧ o2 ∧ ob, d)
  | none => none
def aPick (c a b : D) : Option (Prop × D) := match bodyT c, bodyT a, bodyT b with
  | (.s (.bool vc)), (.s (.bool va)), (.s (.bool vb)) => some (oblT c ∧ (vc = true → oblT a) ∧ (vc = false → oblT b), .s (.bool (bif vc then va else vb)))
  | (.s (.bool vc)), (.s (.bool va)), .un => some (oblT c ∧ vc = true ∧ oblT a, .s (.bool va))
  | (.s (.bool vc)), .un, (.s (.bool vb)) => some (oblT c ∧ vc = false ∧ oblT b, .s (.bool vb))
  | _, _, _ => none
def aExtract (x : D) (i : Nat) : Option (Prop × D) := match x with
  | .tup xs => match xs[i]? with
    | some y => some (True, y)
    | none => none
  | _ => none
def oblO : Option D → Prop
  | some x => oblT x
  | none => True
/-- an operation that changes nothing: what is asked, what it yields. -/
def aop1 (P : Program) (σ : St) : Op → Option (Prop × D)
  | .move x => some (True, ev σ x)
  | .assign x => some (True, ev σ x)
  | .pick c a b => aPick (ev σ c) (ev σ a) (ev σ b)
  | .binOp op t x y _ => lift2 (oblT (ev σ x)) (oblT (ev σ y)) (aBin P op t (bodyT (ev σ x)) (bodyT (ev σ y)))
  | .unOp op _ x => lift2 (oblT (ev σ x)) True (aUn op (bodyT (ev σ x)))
  | .load t x => lift2 (oblT (ev σ x)) True (aLoad P σ t (bodyT (ev σ x)))
  | .fieldAddr s x f => lift2 (oblT (ev σ x)) True (aFieldAddr P s (bodyT (ev σ x)) f)
  | .field s x f => lift2 (oblT (ev σ x)) True (aField P s (bodyT (ev σ x)) f)
  | .indexAddr t x i => lift2 (oblT (ev σ x)) (oblT (ev σ i)) (aIndexAddr P t (bodyT (ev σ x)) (bodyT (ev σ i)))
  | .index t x i => lift2 (oblT (ev σ x)) (oblT (ev σ i)) (aIndex P t (bodyT (ev σ x)) (bodyT (ev σ i)))
  | .slice t x lo hi none => lift2 (oblT (ev σ x)) (oblO (lo.map (ev σ)) ∧ oblO (hi.map (ev σ))) (aSlice P t (bodyT (ev σ x)) (lo.map fun y => bodyT (ev σ y)) (hi.map fun y => bodyT (ev σ y)))
  | .extract x i => aExtract (ev σ x) i
  | .nilCheck x => lift2 (oblT (ev σ x)) True (aNil (bodyT (ev σ x)))
  | .convert s d x => lift2 (oblT (ev σ x)) True (aConv P s d (bodyT (ev σ x)))
  | .call ⟨.builtin .len, args, ts⟩ => match args.toList, ts.toList with
    | [x], [t] => lift2 (oblT (ev σ x)) True (aLen P t (bodyT (ev σ x)))
    | _, _ => none
  | _ => none
theorem lift2_some {o1 o2 ob : Prop} {r : Option (Prop × D)} {y : D} (h : lift2 o1 o2 r = some (ob, y)) : ∃ ob', r = some (ob', y) ∧ ob = (o1 ∧ o2 ∧ ob') := by
  unfold lift2 at h
  split at h
  · injection h with h; injection h with e1 e2
    subst e2
    exact ⟨_, rfl, e1.symm⟩
  · cases h
theorem aop1_ok {x : Cx} {σ : St} {o : Oper} {ob : Prop} {y : D} (h : aop1 x.P σ o.op = some (ob, y)) (ho : ob) {g : Gh} {a : Act} {w : World} (hr : Rel x g σ a w) :
    ∃ r, (execOp a.eval o).run x.P w = .ok (.value r) w ∧ RT g w y r := by
  have hev := ev_ok hr
  have hb : ∀ z, oblT (ev σ z) → RE g w (bodyT (ev σ z)) (a.eval z) := fun z hz => body_ok (hev z) hz
  unfold aop1 at h
  split at h
  · rename_i z hop
    injection h with h; injection h with e1 e2
    subst e2
    exact ⟨_, by simp only [execOp, hop, Sem.run_pure], hev z⟩
  · rename_i z hop
    injection h with h; injection h with e1 e2
    subst e2
    exact ⟨_, by simp only [execOp, hop, Sem.run_pure], hev z⟩
  · rename_i c p q hop
    unfold aPick at h
    split at h
    · rename_i vc va vb hc ha hb'
      injection h with h; injection h with e1 e2
      subst e1 e2
      obtain ⟨o1, o2, o3⟩ := ho
      have c1 := hb c o1
      rw [hc] at c1
      have c1 : a.eval c = .bool vc := Rep.s_inv c1
      cases vc with
      | true =>
        have c2 := hb p (o2 rfl)
        rw [ha] at c2
        have c2 : a.eval p = .bool va := Rep.s_inv c2
        exact ⟨.bool va, by simp [execOp, hop, c1, asBool, c2], Rep.rt (.b _)⟩
      | false =>
        have c2 := hb q (o3 rfl)
        rw [hb'] at c2
        have c2 : a.eval q = .bool vb := Rep.s_inv c2
        exact ⟨.bool vb, by simp [execOp, hop, c1, asBool, c2], Rep.rt (.b _)⟩
    · rename_i vc va hc ha hb'
      injection h with h; injection h with e1 e2
      subst e1 e2
      obtain ⟨o1, rfl, o2⟩ := ho
      have c1 := hb c o1
      rw [hc] at c1
      have c1 : a.eval c = .bool true := Rep.s_inv c1
      have c2 := hb p o2
      rw [ha] at c2
      have c2 : a.eval p = .bool va := Rep.s_inv c2
      exact ⟨.bool va, by simp [execOp, hop, c1, asBool, c2], Rep.rt (.b _)⟩
    · rename_i vc vb hc ha hb'
      injection h with h; injection h with e1 e2
      subst e1 e2
      obtain ⟨o1, rfl, o2⟩ := ho
      have c1 := hb c o1
      rw [hc] at c1
      have c1 : a.eval c = .bool false := Rep.s_inv c1
      have c2 := hb q o2
      rw [hb'] at c2
      have c2 : a.eval q = .bool vb := Rep.s_inv c2
      exact ⟨.bool vb, by simp [execOp, hop, c1, asBool, c2], Rep.rt (.b _)⟩
    · cases h
  · rename_i op t p q yt hop
    obtain ⟨ob', h', rfl⟩ := lift2_some h; replace h := h'
    obtain ⟨r, r1, r2⟩ := aBin_ok h ho.2.2 (hb p ho.1) (hb q ho.2.1) p q
    refine ⟨r, ?_, r2.rt⟩
    simp only [execOp, hop, Sem.run_bind] at r1 ⊢
    rw [r1]; rfl
  · rename_i op t p hop
    obtain ⟨ob', h', rfl⟩ := lift2_some h; replace h := h'
    obtain ⟨r, r1, r2⟩ := aUn_ok (P := x.P) h ho.2.2 (hb p ho.1)
    exact ⟨r, by simp only [execOp, hop, Sem.run_bind, r1]; rfl, r2.rt⟩
  · rename_i t p hop
    obtain ⟨ob', h', rfl⟩ := lift2_some h; replace h := h'
    obtain ⟨r, r1, r2⟩ := aLoad_ok h ho.2.2 hr (hb p ho.1)
    exact ⟨r, by simp only [execOp, hop, Sem.run_bind, r1]; rfl, r2.rt⟩
  · rename_i t p f hop
    obtain ⟨ob', h', rfl⟩ := lift2_some h; replace h := h'
    obtain ⟨r, r1, r2⟩ := aFieldAddr_ok h (hb p ho.1)
    exact ⟨r, by simp only [execOp, hop, Sem.run_bind, r1]; rfl, r2.rt⟩
  · rename_i t p f hop
    obtain ⟨ob', h', rfl⟩ := lift2_some h; replace h := h'
    obtain ⟨r, r1, r2⟩ := aField_ok h ho.2.2 (hb p ho.1)
    exact ⟨r, by simp only [execOp, hop, Sem.run_bind, r1]; rfl, r2.rt⟩
  · rename_i t p i hop
    obtain ⟨ob', h', rfl⟩ := lift2_some h; replace h := h'
    obtain ⟨r, r1, r2⟩ := aIndexAddr_ok h ho.2.2 (hb p ho.1) (hb i ho.2.1)
    exact ⟨r, by simp only [execOp, hop, Sem.run_bind, r1]; rfl, r2.rt⟩
  · rename_i t p i hop
    obtain ⟨ob', h', rfl⟩ := lift2_some h; replace h := h'
    obtain ⟨r, r1, r2⟩ := aIndex_ok h ho.2.2 (hb p ho.1) (hb i ho.2.1)
    exact ⟨r, by simp only [execOp, hop, Sem.run_bind, r1]; rfl, r2.rt⟩
  · rename_i t p lo hi hop
    obtain ⟨ob', h', rfl⟩ := lift2_some h; replace h := h'
    obtain ⟨r, r1, r2⟩ := aSlice_ok (lv := lo.map a.eval) (hv := hi.map a.eval) h ho.2.2 (hb p ho.1) (by cases lo <;> rfl) (fun z v hz hv => by
      cases lo with
      | none => cases hz
      | some l => injection hz with hz; injection hv with hv; subst hz hv; exact hb l ho.2.1.1) (by cases hi <;> rfl) (fun z v hz hv => by
      cases hi with
      | none => cases hz
      | some l => injection hz with hz; injection hv with hv; subst hz hv; exact hb l ho.2.1.2)
    exact ⟨r, by simp only [execOp, hop, Sem.run_bind, Option.map_none, r1]; rfl, r2.rt⟩
  · rename_i p i hop
    unfold aExtract at h
    split at h
    · rename_i xs hx
      split at h
      · rename_i z hz
        injection h with h; injection h with e1 e2
        subst e1 e2
        have h1 := hev p
        rw [hx] at h1
        obtain ⟨us, hu, hl, h2⟩ := h1
        have hlt : i < us.length := by rw [hl]; exact (List.getElem?_eq_some_iff.1 hz).1
        refine ⟨us[i], ?_, (h2 i z _ hz (List.getElem?_eq_getElem hlt)).rt⟩
        simp [execOp, hop, hu, Instr.extract, List.getElem?_eq_getElem hlt]
      · cases h
    · cases h
  · rename_i p hop
    obtain ⟨ob', h', rfl⟩ := lift2_some h; replace h := h'
    have h1 := hb p ho.1
    unfold aNil at h
    split at h
    · rename_i row hx
      injection h with h; injection h with e1 e2
      subst e1 e2
      rw [hx] at h1
      refine ⟨a.eval p, ?_, h1.rt⟩
      cases hv : a.eval p <;> rw [hv] at h1 <;> cases h1
      simp [execOp, hop, hv]
    · rename_i id o hx
      injection h with h; injection h with e1 e2
      subst e1 e2
      rw [hx] at h1
      refine ⟨a.eval p, ?_, h1.rt⟩
      obtain ⟨b, -, h1⟩ := h1
      simp [execOp, hop, h1]
    · rename_i id k i o hx
      injection h with h; injection h with e1 e2
      subst e1 e2
      rw [hx] at h1
      refine ⟨a.eval p, ?_, h1.rt⟩
      obtain ⟨b, -, h1⟩ := h1
      simp [execOp, hop, h1]
    · rename_i f cs hx
      injection h with h; injection h with e1 e2
      subst e1 e2
      rw [hx] at h1
      refine ⟨a.eval p, ?_, h1.rt⟩
      cases hv : a.eval p <;> rw [hv] at h1 <;> cases h1
      simp [execOp, hop, hv]
    · cases h
  · rename_i s d p hop
    obtain ⟨ob', h', rfl⟩ := lift2_some h; replace h := h'
    obtain ⟨r, r1, r2⟩ := aConv_ok h ho.2.2 (hb p ho.1)
    exact ⟨r, by simp only [execOp, hop, Sem.run_bind, r1]; rfl, r2.rt⟩
  · rename_i args ts hop
    split at h
    · rename_i p t ha ht
      obtain ⟨ob', h', rfl⟩ := lift2_some h; replace h := h'
      obtain ⟨r, r1, r2⟩ := aLen_ok (ty := o.type) h ho.2.2 (hb p ho.1)
      refine ⟨r, ?_, r2.rt⟩
      have ea : args = #[p] := Array.ext' ha
      have et : ts = #[t] := Array.ext' ht
      subst ea et
      simp only [execOp, hop, resolve, invoke, builtin, Sem.run_bind, Sem.run_pure, Result.andThen_ok, List.map_toArray, List.map_cons, List.map_nil]
      rw [r1]; rfl
    · cases h
  · cases h
end Go.Proofs.Ythkgncddilkmbaa
