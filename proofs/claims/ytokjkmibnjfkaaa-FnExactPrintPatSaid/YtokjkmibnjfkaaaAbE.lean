/- The engine, fifth part: all operations that change nothing, under one name. -/
import Derived.Test.YtokjkmibnjfkaaaAbD
namespace Go.Proofs.Ytokjkmibnjfkaaa
set_option linter.unusedVariables false
set_option linter.unusedSimpArgs false
open Go.RowKit
def boundE : Option E → Int → Option Int
  | none, n => some n
  | some x, _ => (intE x).map (·.2)
theorem boundE_ok {lo : Option E} {n l : Int} (h : boundE lo n = some l) {B : Nat} {g : Gh} {w : World} {lv : Option Value} (hl : lv.isSome = lo.isSome) (hr : ∀ x v, lo = some x → lv = some v → RE B g w x v) :
    (lo = none ∧ lv = none ∧ l = n) ∨ ∃ k, lv = some (.int k l) := by
  cases lo with
  | none =>
    left
    cases lv with
    | none => injection h with h; exact ⟨rfl, rfl, h.symm⟩
    | some _ => cases hl
  | some x =>
    right
    cases lv with
    | none => cases hl
    | some v =>
      simp only [boundE, Option.map_eq_some_iff] at h
      obtain ⟨⟨k, m⟩, hm, rfl⟩ := h
      exact ⟨k, by rw [intE_ok hm (hr x v rfl rfl)]⟩
theorem run_bounds {P : Program} {b : Bool} {len cap l h : Nat} {lv hv : Option Value} (hl : (lv = none ∧ l = 0) ∨ ∃ k, lv = some (.int k (l : Int))) (hh : (hv = none ∧ h = len) ∨ ∃ k, hv = some (.int k (h : Int))) (h1 : l ≤ h) (h2 : h ≤ cap) (w : World) :
    (Instr.sliceBounds b len cap lv hv none).run P w = .ok (l, h, cap) w := by
  have e1 : (0 : Int) ≤ (h : Int) ∧ (h : Int) ≤ (cap : Int) := by omega
  have e2 : (0 : Int) ≤ (l : Int) ∧ (l : Int) ≤ (h : Int) := by omega
  rcases hl with ⟨rfl, rfl⟩ | ⟨k, rfl⟩ <;> rcases hh with ⟨rfl, rfl⟩ | ⟨k', rfl⟩ <;>
    simp [Instr.sliceBounds, Instr.sliceBound, asIntOf, e1, e2, h1, h2]
/-- a part of a slice or a text. -/
def aSlice (P : Program) (t : TypeId) (x : E) (lo hi : Option E) : Option (Prop × E) := match tk P t, rowsE x with
  | .sl _ k _ _, some (k', rows) => match boundE lo 0, boundE hi rows.length with
    | some l, some h => some (k' = k ∧ 0 ≤ l ∧ l ≤ h ∧ h ≤ (rows.length : Int), .d (.sl k' ((rows.take h.toNat).drop l.toNat)))
    | _, _ => none
  | _, _ => match x with
    | .d (.s (.string s)) => match boundE lo 0, boundE hi s.size with
      | some l, some h => some (P.underlying t = some .string ∧ 0 ≤ l ∧ l ≤ h ∧ h ≤ (s.size : Int), .d (.s (.string (s.extract l.toNat h.toNat))))
      | _, _ => none
    | _ => none
theorem Rep.part {S : Seal} {w : World} {k : Nat} {rows : List (List D)} {a : Option Addr} {n c : Nat} (hr : Rep S w (.sl k rows) (.slice a n c)) (l h : Nat) (h1 : l ≤ h) (h2 : h ≤ rows.length) :
    Rep S w (.sl k ((rows.take h).drop l)) (.slice (if c = l then a else a.map (·.add (l * k))) (h - l) (c - l)) := by
  have hlen : ((rows.take h).drop l).length = h - l := by rw [List.length_drop, List.length_take, Nat.min_eq_left h2]
  cases hr with
  | sl0 hc =>
    have e0 : h = 0 ∧ l = 0 := by simp at h2; omega
    obtain ⟨rfl, rfl⟩ := e0
    exact .sl0 (by omega)
  | @sl _ _ b off c us c1 c2 c3 c4 c5 =>
    by_cases e : h = l
    · subst e
      have : (rows.take h).drop h = [] := List.eq_nil_of_length_eq_zero (by rw [hlen]; omega)
      rw [this, Nat.sub_self]
      exact .sl0 (by omega)
    · have hne : ¬ c = l := by omega
      rw [if_neg hne, Option.map_some, add_lit, ← hlen]
      have hg : ∀ (i : Nat) (row : List D), ((rows.take h).drop l)[i]? = some row → rows[l + i]? = some row := by
        intro i row hi
        rw [List.getElem?_drop, List.getElem?_take] at hi
        split at hi
        · exact hi
        · cases hi
      refine .sl (fun i j => us (l + i) j) (by rw [hlen]; omega) (by omega) (fun i row hi => c3 _ row (hg i row hi)) (fun i j row d hi hj => ?_) (fun i j row d hi hj => c5 _ j row d (hg i row hi) hj)
      have := c4 (l + i) j row d (hg i row hi) hj
      rw [Nat.add_mul, ← Nat.add_assoc] at this
      exact this
theorem aSlice_ok {P : Program} {t : TypeId} {x y : E} {lo hi : Option E} {ob : Prop} (h : aSlice P t x lo hi = some (ob, y)) (ho : ob) {B : Nat} {g : Gh} {w : World} {u : Value} (hu : RE B g w x u) {lv hv : Option Value}
    (hl1 : lv.isSome = lo.isSome) (hl2 : ∀ x v, lo = some x → lv = some v → RE B g w x v) (hh1 : hv.isSome = hi.isSome) (hh2 : ∀ x v, hi = some x → hv = some v → RE B g w x v) :
    ∃ r, (Instr.sliceAt t u lv hv none).run P w = .ok r w ∧ RE B g w y r := by
  unfold aSlice at h
  split at h
  · rename_i e k b z k' rows hk hx
    split at h
    · rename_i l hh bl bh
      injection h with h; injection h with e1 e2
      subst e1 e2
      obtain ⟨rfl, o1, o2, o3⟩ := ho
      have hr := rowsE_ok hx hu
      obtain ⟨a, c, rfl, c1, c2⟩ := hr.sl_shape
      obtain ⟨hu1, -⟩ := tk_sl hk
      obtain ⟨l, rfl⟩ := Int.eq_ofNat_of_zero_le o1
      obtain ⟨hh, rfl⟩ := Int.eq_ofNat_of_zero_le (Int.le_trans o1 o2)
      have b1 := boundE_ok bl hl1 hl2
      have b2 := boundE_ok bh hh1 hh2
      simp only [Int.toNat_natCast] at *
      refine ⟨_, ?_, Rep.part hr l hh (by omega) (by omega)⟩
      have hb := run_bounds (P := P) (b := true) (len := rows.length) (cap := c) (l := l) (h := hh) (lv := lv) (hv := hv) (b1.imp (fun q => ⟨q.2.1, by omega⟩) id) (b2.imp (fun q => ⟨q.2.1, by omega⟩) id) (by omega) (by omega) w
      simp only [Instr.sliceAt, Sem.run_bind, run_underlying hu1, Result.andThen_ok, Instr.slice, hb, tk_slice_len hk, Sem.run_pure]
    · cases h
  · split at h
    · rename_i s hno
      split at h
      · rename_i l hh bl bh
        injection h with h; injection h with e1 e2
        subst e1 e2
        obtain ⟨ht, o1, o2, o3⟩ := ho
        obtain rfl := Rep.s_inv hu
        obtain ⟨l, rfl⟩ := Int.eq_ofNat_of_zero_le o1
        obtain ⟨hh, rfl⟩ := Int.eq_ofNat_of_zero_le (Int.le_trans o1 o2)
        have b1 := boundE_ok bl hl1 hl2
        have b2 := boundE_ok bh hh1 hh2
        simp only [Int.toNat_natCast] at *
        refine ⟨_, ?_, .str _⟩
        have hb := run_bounds (P := P) (b := false) (len := s.size) (cap := s.size) (l := l) (h := hh) (lv := lv) (hv := hv) (b1.imp (fun q => ⟨q.2.1, by omega⟩) id) (b2.imp (fun q => ⟨q.2.1, by omega⟩) id) (by omega) (by omega) w
        simp only [Instr.sliceAt, Sem.run_bind, run_underlying ht, Result.andThen_ok, Instr.slice, Option.isSome_none, Bool.false_eq_true, if_false, Sem.run_pure, hb]
      · cases h
    · cases h
/-- a length. -/
def aLen (P : Program) (t : TypeId) (x : E) : Option (Prop × D) := match x with
  | .d (.s (.string s)) => some (P.underlying t = some .string, .s (.int .i64 s.size))
  | .d .nil => some (P.underlying t = some (.slice (P.elem t)), .s (.int .i64 0))
  | .d (.sl _ rows) => some (P.underlying t = some (.slice (P.elem t)), .s (.int .i64 rows.length))
  | .own _ _ rows _ => some (P.underlying t = some (.slice (P.elem t)), .s (.int .i64 rows.length))
  | .bs _ _ n => some (P.underlying t = some (.slice (P.elem t)), .s (.int .i64 n))
  | _ => none
theorem aLen_ok {P : Program} {t ty : TypeId} {x : E} {d : D} {ob : Prop} (h : aLen P t x = some (ob, d)) (ho : ob) {B : Nat} {g : Gh} {w : World} {u : Value} (hu : RE B g w x u) :
    ∃ r, (Builtin.len_ #[t] ty #[u]).run P w = .ok r w ∧ Rep g.S w d r := by
  unfold aLen at h
  split at h
  · injection h with h; injection h with e1 e2
    subst e1 e2
    obtain rfl := Rep.s_inv hu
    exact ⟨_, by simp [Builtin.len_, run_underlying ho]; rfl, .i _ _⟩
  · injection h with h; injection h with e1 e2
    subst e1 e2
    cases hu
    exact ⟨_, run_len_slice w t ty _ _ _ ho, .i _ _⟩
  · injection h with h; injection h with e1 e2
    subst e1 e2
    obtain ⟨a, c, rfl, -⟩ := Rep.sl_shape hu
    exact ⟨_, run_len_slice w t ty _ _ _ ho, .i _ _⟩
  · injection h with h; injection h with e1 e2
    subst e1 e2
    obtain ⟨a, c, rfl, -⟩ := Rep.sl_shape (OwnR.rep hu)
    exact ⟨_, run_len_slice w t ty _ _ _ ho, .i _ _⟩
  · injection h with h; injection h with e1 e2
    subst e1 e2
    obtain ⟨rfl, -⟩ := hu
    exact ⟨_, run_len_slice w t ty _ _ _ ho, .i _ _⟩
  · cases h
/-- a number of another kind. -/
def aConv (P : Program) (src dst : TypeId) (x : E) : Option (Prop × D) := match intE x with
  | some (_, n) => some ((P.underlying src).isSome = true ∧ P.underlying dst = some (.int (P.intKind dst)) ∧ kmin (P.intKind dst) ≤ n ∧ n ≤ kmax (P.intKind dst), .s (.int (P.intKind dst) n))
  | none => none
theorem aConv_ok {P : Program} {src dst : TypeId} {x : E} {d : D} {ob : Prop} (h : aConv P src dst x = some (ob, d)) (ho : ob) {B : Nat} {g : Gh} {w : World} {u : Value} (hu : RE B g w x u) :
    ∃ r, (convert src dst u).run P w = .ok r w ∧ Rep g.S w d r := by
  unfold aConv at h
  split at h
  · rename_i k n hx
    injection h with h; injection h with e1 e2
    subst e1 e2
    obtain rfl := intE_ok hx hu
    refine ⟨_, ?_, .i _ _⟩
    rw [run_convert_int w src dst k n ho.1 ho.2.1, wrap_in _ _ ho.2.2.1 ho.2.2.2]
  · cases h
def aNil (x : E) : Option (Prop × E) := match x with
  | .d (.pt row) => some (True, .d (.pt row))
  | .bx id o => some (True, .bx id o)
  | .d (.fn f cs) => some (True, .d (.fn f cs))
  | _ => none
def lift2 (o1 o2 : Prop) : Option (Prop × D) → Option (Prop × T)
  | some (ob, d) => some (o1 ∧ o2 ∧ ob, .e (.d d))
  | none => none
def liftE (o1 o2 : Prop) : Option (Prop × E) → Option (Prop × T)
  | some (ob, d) => some (o1 ∧ o2 ∧ ob, .e d)
  | none => none
def aPick (c a b : T) : Option (Prop × T) := match bodyT c, bodyT a, bodyT b with
  | .d (.s (.bool vc)), .d (.s (.bool va)), .d (.s (.bool vb)) => some (oblT c ∧ (vc = true → oblT a) ∧ (vc = false → oblT b), .e (.d (.s (.bool (bif vc then va else vb)))))
  | _, _, _ => none
def aExtract (x : T) (i : Nat) : Option (Prop × T) := match x with
  | .tup xs => match xs[i]? with
    | some y => some (True, .e y)
    | none => none
  | _ => none
def oblO : Option T → Prop
  | some x => oblT x
  | none => True
/-- an operation that changes nothing: what is asked, what it yields. -/
def aop1 (P : Program) (σ : St) : Op → Option (Prop × T)
  | .move x => some (True, ev σ x)
  | .assign x => some (True, ev σ x)
  | .pick c a b => aPick (ev σ c) (ev σ a) (ev σ b)
  | .binOp op t x y _ => lift2 (oblT (ev σ x)) (oblT (ev σ y)) (aBin P op t (bodyT (ev σ x)) (bodyT (ev σ y)))
  | .unOp op _ x => lift2 (oblT (ev σ x)) True (aUn op (bodyT (ev σ x)))
  | .load t x => liftE (oblT (ev σ x)) True (aLoad P σ t (bodyT (ev σ x)))
  | .fieldAddr s x f => liftE (oblT (ev σ x)) True (aFieldAddr P s (bodyT (ev σ x)) f)
  | .field s x f => liftE (oblT (ev σ x)) True (aField P s (bodyT (ev σ x)) f)
  | .indexAddr t x i => liftE (oblT (ev σ x)) (oblT (ev σ i)) (aIndexAddr P t (bodyT (ev σ x)) (bodyT (ev σ i)))
  | .index t x i => lift2 (oblT (ev σ x)) (oblT (ev σ i)) (aIndex P t (bodyT (ev σ x)) (bodyT (ev σ i)))
  | .slice t x lo hi none => liftE (oblT (ev σ x)) (oblO (lo.map (ev σ)) ∧ oblO (hi.map (ev σ))) (aSlice P t (bodyT (ev σ x)) (lo.map fun y => bodyT (ev σ y)) (hi.map fun y => bodyT (ev σ y)))
  | .extract x i => aExtract (ev σ x) i
  | .nilCheck x => liftE (oblT (ev σ x)) True (aNil (bodyT (ev σ x)))
  | .convert s d x => lift2 (oblT (ev σ x)) True (aConv P s d (bodyT (ev σ x)))
  | .call ⟨.builtin .len, args, ts⟩ => match args.toList, ts.toList with
    | [x], [t] => lift2 (oblT (ev σ x)) True (aLen P t (bodyT (ev σ x)))
    | _, _ => none
  | _ => none
theorem lift2_some {o1 o2 ob : Prop} {r : Option (Prop × D)} {y : T} (h : lift2 o1 o2 r = some (ob, y)) : ∃ ob' d, r = some (ob', d) ∧ ob = (o1 ∧ o2 ∧ ob') ∧ y = .e (.d d) := by
  unfold lift2 at h
  split at h
  · injection h with h; injection h with e1 e2
    exact ⟨_, _, rfl, e1.symm, e2.symm⟩
  · cases h
theorem liftE_some {o1 o2 ob : Prop} {r : Option (Prop × E)} {y : T} (h : liftE o1 o2 r = some (ob, y)) : ∃ ob' d, r = some (ob', d) ∧ ob = (o1 ∧ o2 ∧ ob') ∧ y = .e d := by
  unfold liftE at h
  split at h
  · injection h with h; injection h with e1 e2
    exact ⟨_, _, rfl, e1.symm, e2.symm⟩
  · cases h
theorem aop1_ok {x : Cx} {σ : St} {o : Oper} {ob : Prop} {y : T} (h : aop1 x.P σ o.op = some (ob, y)) (ho : ob) {g : Gh} {a : Act} {w : World} (hr : Rel x g σ a w) :
    ∃ r, (execOp a.eval o).run x.P w = .ok (.value r) w ∧ RT x.B g w y r := by
  have hev := ev_ok hr
  have hb : ∀ z, oblT (ev σ z) → RE x.B g w (bodyT (ev σ z)) (a.eval z) := fun z hz => body_ok (hev z) hz
  unfold aop1 at h
  split at h
  · rename_i z hop
    injection h with h; injection h with e1 e2
    subst e2
    exact ⟨_, by simp only [execOp, hop, Sem.run_pure], hev z⟩
  · rename_i z hop
    injection h with h; injection h with e1 e2
    subst e2
    exact ⟨_, by simp only [execOp, hop, Sem.run_pure], hev z⟩
  · rename_i c p q hop
    unfold aPick at h
    split at h
    · rename_i vc va vb hc ha hb'
      injection h with h; injection h with e1 e2
      subst e1 e2
      obtain ⟨o1, o2, o3⟩ := ho
      have c1 := hb c o1
      rw [hc] at c1
      have c1 : a.eval c = .bool vc := Rep.s_inv c1
      cases vc with
      | true =>
        have c2 := hb p (o2 rfl)
        rw [ha] at c2
        have c2 : a.eval p = .bool va := Rep.s_inv c2
        exact ⟨_, by simp [execOp, hop, c1, asBool, c2], .b _⟩
      | false =>
        have c2 := hb q (o3 rfl)
        rw [hb'] at c2
        have c2 : a.eval q = .bool vb := Rep.s_inv c2
        exact ⟨_, by simp [execOp, hop, c1, asBool, c2], .b _⟩
    · cases h
  · rename_i op t p q yt hop
    obtain ⟨ob', d, h', rfl, rfl⟩ := lift2_some h; replace h := h'
    obtain ⟨r, r1, r2⟩ := aBin_ok h ho.2.2 (hb p ho.1) (hb q ho.2.1) p q
    refine ⟨r, ?_, r2⟩
    simp only [execOp, hop, Sem.run_bind] at r1 ⊢
    rw [r1]; rfl
  · rename_i op t p hop
    obtain ⟨ob', d, h', rfl, rfl⟩ := lift2_some h; replace h := h'
    obtain ⟨r, r1, r2⟩ := aUn_ok (P := x.P) h ho.2.2 (hb p ho.1)
    exact ⟨r, by simp only [execOp, hop, Sem.run_bind, r1]; rfl, r2⟩
  · rename_i t p hop
    obtain ⟨ob', d, h', rfl, rfl⟩ := liftE_some h; replace h := h'
    obtain ⟨r, r1, r2⟩ := aLoad_ok h ho.2.2 hr (hb p ho.1)
    exact ⟨r, by simp only [execOp, hop, Sem.run_bind, r1]; rfl, r2⟩
  · rename_i t p f hop
    obtain ⟨ob', d, h', rfl, rfl⟩ := liftE_some h; replace h := h'
    obtain ⟨r, r1, r2⟩ := aFieldAddr_ok h (hb p ho.1)
    exact ⟨r, by simp only [execOp, hop, Sem.run_bind, r1]; rfl, r2⟩
  · rename_i t p f hop
    obtain ⟨ob', d, h', rfl, rfl⟩ := liftE_some h; replace h := h'
    obtain ⟨r, r1, r2⟩ := aField_ok h ho.2.2 (hb p ho.1)
    exact ⟨r, by simp only [execOp, hop, Sem.run_bind, r1]; rfl, r2⟩
  · rename_i t p i hop
    obtain ⟨ob', d, h', rfl, rfl⟩ := liftE_some h; replace h := h'
    obtain ⟨r, r1, r2⟩ := aIndexAddr_ok h ho.2.2 (hb p ho.1) (hb i ho.2.1)
    exact ⟨r, by simp only [execOp, hop, Sem.run_bind, r1]; rfl, r2⟩
  · rename_i t p i hop
    obtain ⟨ob', d, h', rfl, rfl⟩ := lift2_some h; replace h := h'
    obtain ⟨r, r1, r2⟩ := aIndex_ok h ho.2.2 (hb p ho.1) (hb i ho.2.1)
    exact ⟨r, by simp only [execOp, hop, Sem.run_bind, r1]; rfl, r2⟩
  · rename_i t p lo hi hop
    obtain ⟨ob', d, h', rfl, rfl⟩ := liftE_some h; replace h := h'
    obtain ⟨r, r1, r2⟩ := aSlice_ok (lv := lo.map a.eval) (hv := hi.map a.eval) h ho.2.2 (hb p ho.1) (by cases lo <;> rfl) (fun z v hz hv => by
      cases lo with
      | none => cases hz
      | some l => injection hz with hz; injection hv with hv; subst hz hv; exact hb l ho.2.1.1) (by cases hi <;> rfl) (fun z v hz hv => by
      cases hi with
      | none => cases hz
      | some l => injection hz with hz; injection hv with hv; subst hz hv; exact hb l ho.2.1.2)
    exact ⟨r, by simp only [execOp, hop, Sem.run_bind, Option.map_none, r1]; rfl, r2⟩
  · rename_i p i hop
    unfold aExtract at h
    split at h
    · rename_i xs hx
      split at h
      · rename_i z hz
        injection h with h; injection h with e1 e2
        subst e1 e2
        have h1 := hev p
        rw [hx] at h1
        obtain ⟨us, hu, hl, h2⟩ := h1
        have hlt : i < us.length := by rw [hl]; exact (List.getElem?_eq_some_iff.1 hz).1
        refine ⟨us[i], ?_, h2 i z _ hz (List.getElem?_eq_getElem hlt)⟩
        simp [execOp, hop, hu, Instr.extract, List.getElem?_eq_getElem hlt]
      · cases h
    · cases h
  · rename_i p hop
    obtain ⟨ob', d, h', rfl, rfl⟩ := liftE_some h; replace h := h'
    have h1 := hb p ho.1
    unfold aNil at h
    split at h
    · rename_i row hx
      injection h with h; injection h with e1 e2
      subst e1 e2
      rw [hx] at h1
      refine ⟨a.eval p, ?_, h1⟩
      cases hv : a.eval p <;> rw [hv] at h1 <;> cases h1
      simp [execOp, hop, hv]
    · rename_i id o hx
      injection h with h; injection h with e1 e2
      subst e1 e2
      rw [hx] at h1
      refine ⟨a.eval p, ?_, h1⟩
      have h1 : a.eval p = .pointer (some ⟨g.β id, o, none⟩) := h1
      simp [execOp, hop, h1]
    · rename_i f cs hx
      injection h with h; injection h with e1 e2
      subst e1 e2
      rw [hx] at h1
      refine ⟨a.eval p, ?_, h1⟩
      cases hv : a.eval p <;> rw [hv] at h1 <;> cases h1
      simp [execOp, hop, hv]
    · cases h
  · rename_i s d p hop
    obtain ⟨ob', d, h', rfl, rfl⟩ := lift2_some h; replace h := h'
    obtain ⟨r, r1, r2⟩ := aConv_ok h ho.2.2 (hb p ho.1)
    exact ⟨r, by simp only [execOp, hop, Sem.run_bind, r1]; rfl, r2⟩
  · rename_i args ts hop
    split at h
    · rename_i p t ha ht
      obtain ⟨ob', d, h', rfl, rfl⟩ := lift2_some h; replace h := h'
      obtain ⟨r, r1, r2⟩ := aLen_ok (ty := o.type) h ho.2.2 (hb p ho.1)
      refine ⟨r, ?_, r2⟩
      have ea : args = #[p] := Array.ext' ha
      have et : ts = #[t] := Array.ext' ht
      subst ea et
      simp only [execOp, hop, resolve, invoke, builtin, Sem.run_bind, Sem.run_pure, Result.andThen_ok, List.map_toArray, List.map_cons, List.map_nil]
      rw [r1]; rfl
    · cases h
  · cases h
end Go.Proofs.Ytokjkmibnjfkaaa
