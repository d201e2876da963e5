/- Parts of the proof, laid together: GdB, GiB. -/
import Derived.Deep.LoopGhost
import Derived.Deep.RegionLaw
import Derived.Deep.RegionWith
import Derived.Deep.Slices
import Derived.Laws.AppendOwn
import Derived.Laws.CopyRow
import Derived.Laws.Cover3
import Derived.Laws.EntriesVeiled
import Derived.Laws.Externs
import Derived.Laws.IdiomStrings
import Derived.Laws.StructEq
import Derived.Lib.AppendStr
import Derived.Lib.AppendZeros
import Derived.Lib.AppendZerosOnto
import Derived.Lib.Hide
import Derived.Lib.Overlaps
import Derived.ProofKit
import Derived.Test.YtmnokalddmlogaaGreatProg
import Derived.WalkKit
import Derived.Test.YtmnokalddmlogaaGreatP1
set_option linter.unusedSimpArgs false
set_option linter.unusedVariables false
set_option maxRecDepth 100000
set_option maxHeartbeats 8000000
namespace Go.Proofs.YtmnokalddmlogaaGreat
section
open Go.RowKit
theorem szT_run {P : Program} {t : TypeId} (h : szT P t ≠ 0) (w : World) : (sizeOf t).run P w = .ok (szT P t) w := by
 unfold szT at h ⊢
 cases hi : P.info? t with
 | none => rw [hi] at h; exact absurd rfl h
 | some i => simp [sizeOf, typeInfo, hi]
theorem Rep.pt_shape {S : Nat -> Prop} {up : Nat -> Option Pos} {w : World} {p : Option Pos} {row : List D} {u : Value} (h : Rep S up w p (.pt row) u) : ∃ b off, u = .pointer (some ⟨b, off, none⟩) := by
 cases h with
 | pt us h1 h2 => exact ⟨_, _, rfl⟩
theorem Rep.pt_drop {S : Nat -> Prop} {up : Nat -> Option Pos} {w : World} {p : Option Pos} {row : List D} {b off : Nat} (h : Rep S up w p (.pt row) (.pointer (some ⟨b, off, none⟩))) (n : Nat) : Rep S up w p (.pt (row.drop n)) (.pointer (some ⟨b, off + n, none⟩)) := by
 cases h with
 | pt us h1 h2 =>
  refine .pt (fun j => us (n + j)) (fun j d hj => ?_) (fun j d hj => ?_)
  ·rw [List.getElem?_drop] at hj
   have := h1 _ _ hj
   rw [<- Nat.add_assoc] at this; exact this
  ·rw [List.getElem?_drop] at hj
   exact h2 _ _ hj
theorem Xl {P : Program} {s n f off sz : Nat} {fs : List (Nat × Nat × Bool)} {z : List D} {ag : Bool} (hk : tk P s = .st n fs z) (hf : fs[f]? = some (off, sz, ag)) (b o : Nat) (w : World) :
  (Instr.fieldAt s (.pointer (some ⟨b, o, none⟩)) f).run P w = .ok (.pointer (some ⟨b, o + off, none⟩)) w := by
 obtain ⟨fields, i, zv, a1, a2, a3, a4, a5, a6, a7, a8, a9⟩ := tk_st hk
 rw [a8, List.getElem?_map] at hf
 cases hf' : fields.toList[f]? with
 | none => rw [hf'] at hf; cases hf
 | some fd =>
  rw [hf'] at hf
  injection hf with hf; injection hf with f1 f2; injection f2 with f2 f3
  subst f1
  have hne := (a9 fd (List.mem_of_getElem? hf')).1
  simp only [Instr.fieldAt, Sem.run_bind, run_underlying a1, Result.andThen_ok, Array.getElem?_toList ▸ hf', Instr.sureAddr, Sem.run_pure, fieldPlace, szT_run hne]
  rw [if_neg hne]
  simp [Addr.add_lit]
def uQ (P : Program) (s : TypeId) (x : D) (f : Nat) : Option (Prop × D) := match tk P s with
 | .st _ fs _ => match fs[f]?, x with
  | some (off, _, _), .pt row => some (True, .pt (row.drop off))
  | some (off, _, _), .bx id o => some (True, .bx id (o + off))
  | some (off, _, _), .el id k i o => some (True, .el id k i (o + off))
  | _, _ => none
 | _ => none
theorem Vm {P : Program} {s : TypeId} {x y : D} {f : Nat} {ob : Prop} (h : uQ P s x f = some (ob, y)) {g : Gh} {w : World} {u : Value} (hu : RE g w x u) :
  ∃ r, (Instr.fieldAt s u f).run P w = .ok r w /\ RE g w y r := by
 unfold uQ at h
 split at h
 ·rename_i n fs z hk
  split at h
  ·rename_i off sz ag row hf
   injection h with h; injection h with e1 e2
   subst e1 e2
   have hu : Rep g.S g.up w none (.pt row) u := hu
   obtain ⟨b, o, rfl⟩ := hu.pt_shape
   exact ⟨_, Xl hk hf _ _ w, Rep.pt_drop hu off⟩
  ·rename_i off sz ag id o hf
   injection h with h; injection h with e1 e2
   subst e1 e2
   obtain ⟨b, h1, rfl⟩ := hu
   exact ⟨_, Xl hk hf _ _ w, b, h1, rfl⟩
  ·rename_i off sz ag id k i o hf
   injection h with h; injection h with e1 e2
   subst e1 e2
   obtain ⟨b, h1, rfl⟩ := hu
   exact ⟨_, Xl hk hf _ _ w, b, h1, by rw [Nat.add_assoc]⟩
  ·cases h
 ·cases h
def Wa (P : Program) (s : TypeId) (x : D) (f : Nat) : Option (Prop × D) := match tk P s with
 | .st _ fs _ => match fs[f]?, x with
  | some (off, sz, true), .ag xs => some (off + sz <= xs.length, .ag ((xs.drop off).take sz))
  | some (off, _, false), .ag xs => match xs.drop off with
   | c :: _ => some (True, c)
   | [] => none
  | _, _ => none
 | _ => none
theorem aField_ok {P : Program} {s : TypeId} {x y : D} {f : Nat} {ob : Prop} (h : Wa P s x f = some (ob, y)) (ho : ob) {g : Gh} {w : World} {u : Value} (hu : RE g w x u) :
  ∃ r, (Instr.field s u f).run P w = .ok r w /\ RE g w y r := by
 unfold Wa at h
 split at h
 ·rename_i n fs z hk
  obtain ⟨fields, i, zv, a1, a2, a3, a4, a5, a6, a7, a8, a9⟩ := tk_st hk
  split at h
  ·rename_i off sz xs hf
   injection h with h; injection h with e1 e2
   subst e1 e2
   rw [a8, List.getElem?_map] at hf
   cases hf' : fields.toList[f]? with
   | none => rw [hf'] at hf; cases hf
   | some fd =>
    rw [hf'] at hf
    injection hf with hf; injection hf with f1 f2; injection f2 with f2 f3
    subst f1 f2
    obtain ⟨hne, hsome, -⟩ := a9 fd (List.mem_of_getElem? hf')
    obtain ⟨dd, hd⟩ := Option.isSome_iff_exists.1 hsome
    obtain ⟨us, rfl, h1, h2⟩ := hu
    refine ⟨.agg ((us.drop fd.offset).take (szT P fd.type)).toArray, ?_, _, rfl, by simp [h1], fun j y u hy hu => ?_⟩
    ·simp only [Instr.field, Sem.run_bind, run_underlying a1, Result.andThen_ok, Array.getElem?_toList ▸ hf', asAgg, Sem.run_pure, part, wJ hd, f3, if_true, szT_run hne]
     congr 2
     apply Array.ext'
     simp [List.extract_eq_take_drop, Nat.add_sub_cancel_left]
    ·rw [List.getElem?_take] at hy hu
     split at hy
     ·rename_i hjn
      rw [if_pos hjn] at hu
      rw [List.getElem?_drop] at hy hu
      exact h2 _ _ _ hy hu
     ·cases hy
  ·rename_i off sz xs hf
   split at h
   ·rename_i c row' hd0
    injection h with h; injection h with e1 e2
    subst e1 e2
    rw [a8, List.getElem?_map] at hf
    cases hf' : fields.toList[f]? with
    | none => rw [hf'] at hf; cases hf
    | some fd =>
     rw [hf'] at hf
     injection hf with hf; injection hf with f1 f2; injection f2 with f2 f3
     subst f1 f2
     obtain ⟨hne, hsome, -⟩ := a9 fd (List.mem_of_getElem? hf')
     obtain ⟨dd, hd⟩ := Option.isSome_iff_exists.1 hsome
     obtain ⟨us, rfl, h1, h2⟩ := hu
     have hc : xs[fd.offset]? = some c := by have := congrArg (fun l => l[0]?) hd0; simpa using this
     have hlt : fd.offset < us.length := by rw [h1]; exact (List.getElem?_eq_some_iff.1 hc).1
     refine ⟨us[fd.offset], ?_, (h2 _ _ _ hc (List.getElem?_eq_getElem hlt)).re⟩
     simp only [Instr.field, Sem.run_bind, run_underlying a1, Result.andThen_ok, Array.getElem?_toList ▸ hf', asAgg, Sem.run_pure, part, wJ hd, f3, Bool.false_eq_true, if_false]
     simp [List.getElem?_eq_getElem hlt]
   ·cases h
  ·cases h
 ·cases h
theorem Rep.row {S : Nat -> Prop} {up : Nat -> Option Pos} {w : World} {p : Option Pos} {k : Nat} {rows : List (List D)} {a : Option Addr} {n c : Nat} (h : Rep S up w p (.sl k rows) (.slice a n c)) (i : Nat) (hi : i < rows.length) : ∃ ad, a = some ad /\ n = rows.length /\ Rep S up w p (.pt (rows.getD i [])) (.pointer (some (ad.add (i * k)))) := by
 cases h with
 | sl0 _ => simp at hi
 | @sl _ _ _ b off c us h1 h2 h3 h4 h5 =>
  refine ⟨_, rfl, rfl, ?_⟩
  have hg : rows[i]? = some rows[i] := List.getElem?_eq_getElem hi
  rw [xZ hg, add_lit]
  exact .pt (us i) (fun j d hj => h4 i j _ d hg hj) (fun j d hj => h5 i j _ d hg hj)
def rowsE : D -> Option (Nat × List (List D))
 | .sl k rows => some (k, rows)
 | _ => none
theorem rowsE_ok {x : D} {k : Nat} {rows : List (List D)} (h : rowsE x = some (k, rows)) {g : Gh} {w : World} {u : Value} (hu : RE g w x u) : Rep g.S g.up w none (.sl k rows) u := by
 unfold rowsE at h
 split at h
 ·injection h with h; injection h with e1 e2; subst e1 e2; exact hu
 ·cases h
theorem Rep.sl_shape {S : Nat -> Prop} {up : Nat -> Option Pos} {w : World} {p : Option Pos} {k : Nat} {rows : List (List D)} {u : Value} (h : Rep S up w p (.sl k rows) u) : ∃ a c, u = .slice a rows.length c /\ rows.length <= c /\ c <= maxLen := by
 cases h with
 | sl0 h => exact ⟨_, _, rfl, Nat.zero_le _, h⟩
 | sl us h1 h2 h3 h4 h5 => exact ⟨_, _, rfl, h1, h2⟩
def intE : D -> Option (IntKind × Int)
 | (.s (.int k n)) => some (k, n)
 | _ => none
theorem vp {x : D} {k : IntKind} {n : Int} (h : intE x = some (k, n)) {g : Gh} {w : World} {u : Value} (hu : RE g w x u) : u = .int k n := by
 unfold intE at h
 split at h
 ·injection h with h; injection h with e1 e2; subst e1 e2; exact Rep.s_inv hu
 ·cases h
def uR (P : Program) (t : TypeId) (x i : D) : Option (Prop × D) := match tk P t, intE i with
 | .sl _ k _ _, some (_, n) => match x with
  | .bs id k' m => some (k' = k /\ 0 <= n /\ n < (m : Int), .el id k' n.toNat 0)
  | x => match rowsE x with
   | some (k', rows) => some (k' = k /\ 0 <= n /\ n < (rows.length : Int), (.pt (rows.getD n.toNat [])))
   | none => none
 | _, _ => none
theorem Vn {P : Program} {t : TypeId} {x i y : D} {ob : Prop} (h : uR P t x i = some (ob, y)) (ho : ob) {g : Gh} {w : World} {u v : Value} (hu : RE g w x u) (hv : RE g w i v) :
  ∃ r, (Instr.indexAt t u v).run P w = .ok r w /\ RE g w y r := by
 unfold uR at h
 split at h
 ·rename_i e k b z ik n hk hi
  obtain ⟨hu1, -⟩ := y7 hk
  have hel : P.elem t = e := by unfold Program.elem; rw [hu1]
  obtain rfl := vp hi hv
  split at h
  ·rename_i id k' m
   injection h with h; injection h with e1 e2
   subst e1 e2
   obtain ⟨rfl, h0, h1⟩ := ho
   obtain ⟨rfl, c1, c2, c3⟩ := hu
   cases hb : g.β id with
   | none => have := c3 hb; omega
   | some b =>
    refine ⟨.pointer (some ⟨b, n.toNat * k' + 0, none⟩), ?_, b, hb, rfl⟩
    rw [Option.map_some, run_indexAt_slice w t _ m _ ik n (by rw [hel]; exact hu1), if_pos ⟨h0, h1⟩, hel, zf hk]
    simp [Addr.add_lit]
  ·split at h
   ·rename_i k' rows hx
    injection h with h; injection h with e1 e2
    subst e1 e2
    obtain ⟨rfl, h0, h1⟩ := ho
    have hr := rowsE_ok hx hu
    obtain ⟨a, c, rfl, c1, c2⟩ := hr.sl_shape
    obtain ⟨ad, rfl, -, hp⟩ := hr.row n.toNat (by omega)
    refine ⟨_, ?_, hp⟩
    rw [run_indexAt_slice w t ad rows.length c ik n (by rw [hel]; exact hu1), if_pos ⟨h0, h1⟩, hel, zf hk]
    rfl
   ·cases h
 ·cases h
def Wb (P : Program) (t : TypeId) (x i : D) : Option (Prop × D) := match x, intE i with
 | (.s (.string s)), some (_, n) => some (P.underlying t = some .string /\ 0 <= n /\ n < (s.size : Int), .s (.int .u8 ((s.data.toList.getD n.toNat 0).toNat : Int)))
 | _, _ => none
theorem aIndex_ok {P : Program} {t : TypeId} {x i : D} {d : D} {ob : Prop} (h : Wb P t x i = some (ob, d)) (ho : ob) {g : Gh} {w : World} {u v : Value} (hu : RE g w x u) (hv : RE g w i v) :
  ∃ r, (Instr.index t u v).run P w = .ok r w /\ Rep g.S g.up w none d r := by
 unfold Wb at h
 split at h
 ·rename_i s ik n hi
  injection h with h; injection h with e1 e2
  subst e1 e2
  obtain ⟨h0, h1, h2⟩ := ho
  obtain rfl := Rep.s_inv hu
  obtain rfl := vp hi hv
  refine ⟨_, ?_, .i _ _⟩
  have hlt : n.toNat < s.size := by omega
  have hg : s[n.toNat]? = some s[n.toNat] := by rw [getElem?_pos]
  simp only [Instr.index, asIntOf, Sem.run_bind, Sem.run_pure, Result.andThen_ok, run_underlying h0, if_pos h1, hg]
  have he : s.data.toList.getD n.toNat 0 = s[n.toNat] := by
   have hl : n.toNat < s.data.toList.length := by simpa using hlt
   rw [xZ (List.getElem?_eq_getElem hl)]; rfl
  rw [he]
 ·cases h
def wQ : Option D -> Int -> Option Int
 | none, n => some n
 | some x, _ => (intE x).map (·.2)
theorem ww {lo : Option D} {n l : Int} (h : wQ lo n = some l) {g : Gh} {w : World} {lv : Option Value} (hl : lv.isSome = lo.isSome) (hr : ∀ x v, lo = some x -> lv = some v -> RE g w x v) :
  (lo = none /\ lv = none /\ l = n) \/ ∃ k, lv = some (.int k l) := by
 cases lo with
 | none =>
  left
  cases lv with
  | none => injection h with h; exact ⟨rfl, rfl, h.symm⟩
  | some _ => cases hl
 | some x =>
  right
  cases lv with
  | none => cases hl
  | some v =>
   simp only [wQ, Option.map_eq_some_iff] at h
   obtain ⟨⟨k, m⟩, hm, rfl⟩ := h
   exact ⟨k, by rw [vp hm (hr x v rfl rfl)]⟩
theorem X0 {P : Program} {b : Bool} {len cap l h : Nat} {lv hv : Option Value} (hl : (lv = none /\ l = 0) \/ ∃ k, lv = some (.int k (l : Int))) (hh : (hv = none /\ h = len) \/ ∃ k, hv = some (.int k (h : Int))) (h1 : l <= h) (h2 : h <= cap) (w : World) :
  (Instr.sliceBounds b len cap lv hv none).run P w = .ok (l, h, cap) w := by
 have e1 : (0 : Int) <= (h : Int) /\ (h : Int) <= (cap : Int) := by omega
 have e2 : (0 : Int) <= (l : Int) /\ (l : Int) <= (h : Int) := by omega
 rcases hl with ⟨rfl, rfl⟩ | ⟨k, rfl⟩ <;> rcases hh with ⟨rfl, rfl⟩ | ⟨k', rfl⟩ <;>
  simp [Instr.sliceBounds, Instr.sliceBound, asIntOf, e1, e2, h1, h2]
def Wc (P : Program) (t : TypeId) (x : D) (lo hi : Option D) : Option (Prop × D) := match x with
 | .sl k' rows => match tk P t, wQ lo 0, wQ hi rows.length with
  | .sl _ k _ _, some l, some h => some (k' = k /\ 0 <= l /\ l <= h /\ h <= (rows.length : Int), .sl k' ((rows.take h.toNat).drop l.toNat))
  | _, _, _ => none
 | .bs id k' n => match tk P t, wQ lo 0, wQ hi n with
  | .sl _ k _ _, some l, some h => some (k' = k /\ l = 0 /\ 0 <= h /\ h <= (n : Int), .bs id k' h.toNat)
  | _, _, _ => none
 | .s (.string s) => match wQ lo 0, wQ hi s.size with
  | some l, some h => some (P.underlying t = some .string /\ 0 <= l /\ l <= h /\ h <= (s.size : Int), .s (.string (s.extract l.toNat h.toNat)))
  | _, _ => none
 | _ => none
theorem Rep.part {S : Nat -> Prop} {up : Nat -> Option Pos} {w : World} {p : Option Pos} {k : Nat} {rows : List (List D)} {a : Option Addr} {n c : Nat} (hr : Rep S up w p (.sl k rows) (.slice a n c)) (l h : Nat) (h1 : l <= h) (h2 : h <= rows.length) :
  Rep S up w p (.sl k ((rows.take h).drop l)) (.slice (if c = l then a else a.map (·.add (l * k))) (h - l) (c - l)) := by
 have hlen : ((rows.take h).drop l).length = h - l := by rw [List.length_drop, List.length_take, Nat.min_eq_left h2]
 cases hr with
 | sl0 hc =>
  have e0 : h = 0 /\ l = 0 := by simp at h2; omega
  obtain ⟨rfl, rfl⟩ := e0
  exact .sl0 (by omega)
 | @sl _ _ _ b off c us c1 c2 c3 c4 c5 =>
  by_cases e : h = l
  ·subst e
   have : (rows.take h).drop h = [] := List.eq_nil_of_length_eq_zero (by rw [hlen]; omega)
   rw [this, Nat.sub_self]
   exact .sl0 (by omega)
  ·have hne : ¬ c = l := by omega
   rw [if_neg hne, Option.map_some, add_lit, <- hlen]
   have hg : ∀ (i : Nat) (row : List D), ((rows.take h).drop l)[i]? = some row -> rows[l + i]? = some row := by
    intro i row hi
    rw [List.getElem?_drop, List.getElem?_take] at hi
    split at hi
    ·exact hi
    ·cases hi
   refine .sl (fun i j => us (l + i) j) (by rw [hlen]; omega) (by omega) (fun i row hi => c3 _ row (hg i row hi)) (fun i j row d hi hj => ?_) (fun i j row d hi hj => c5 _ j row d (hg i row hi) hj)
   have := c4 (l + i) j row d (hg i row hi) hj
   rw [Nat.add_mul, <- Nat.add_assoc] at this
   exact this
theorem aSlice_ok {P : Program} {t : TypeId} {x y : D} {lo hi : Option D} {ob : Prop} (h : Wc P t x lo hi = some (ob, y)) (ho : ob) {g : Gh} {w : World} {u : Value} (hu : RE g w x u) {lv hv : Option Value}
  (hl1 : lv.isSome = lo.isSome) (hl2 : ∀ x v, lo = some x -> lv = some v -> RE g w x v) (hh1 : hv.isSome = hi.isSome) (hh2 : ∀ x v, hi = some x -> hv = some v -> RE g w x v) :
  ∃ r, (Instr.sliceAt t u lv hv none).run P w = .ok r w /\ RE g w y r := by
 unfold Wc at h
 split at h
 ·rename_i k' rows
  split at h
  ·rename_i e k b z l hh hk bl bh
   injection h with h; injection h with e1 e2
   subst e1 e2
   obtain ⟨rfl, o1, o2, o3⟩ := ho
   have hr : Rep g.S g.up w none (.sl k' rows) u := hu
   obtain ⟨a, c, rfl, c1, c2⟩ := hr.sl_shape
   obtain ⟨hu1, -⟩ := y7 hk
   obtain ⟨l, rfl⟩ := Int.eq_ofNat_of_zero_le o1
   obtain ⟨hh, rfl⟩ := Int.eq_ofNat_of_zero_le (Int.le_trans o1 o2)
   have b1 := ww bl hl1 hl2
   have b2 := ww bh hh1 hh2
   simp only [Int.toNat_natCast] at *
   refine ⟨_, ?_, Rep.part hr l hh (by omega) (by omega)⟩
   have hb := X0 (P := P) (b := true) (len := rows.length) (cap := c) (l := l) (h := hh) (lv := lv) (hv := hv) (b1.imp (fun q => ⟨q.2.1, by omega⟩) id) (b2.imp (fun q => ⟨q.2.1, by omega⟩) id) (by omega) (by omega) w
   simp only [Instr.sliceAt, Sem.run_bind, run_underlying hu1, Result.andThen_ok, Instr.slice, hb, zf hk, Sem.run_pure]
  ·cases h
 ·rename_i nm k' n
  split at h
  ·rename_i e k b z l hh hk bl bh
   injection h with h; injection h with e1 e2
   subst e1 e2
   obtain ⟨rfl, rfl, o2, o3⟩ := ho
   obtain ⟨rfl, c1, c2, c3⟩ := hu
   obtain ⟨hu1, -⟩ := y7 hk
   obtain ⟨hh, rfl⟩ := Int.eq_ofNat_of_zero_le o2
   have b1 := ww bl hl1 hl2
   have b2 := ww bh hh1 hh2
   simp only [Int.toNat_natCast] at *
   refine ⟨.slice ((g.β nm).map fun b => ⟨b, 0, none⟩) hh (g.κ nm), ?_, rfl, by omega, c2, c3⟩
   have hb := X0 (P := P) (b := true) (len := n) (cap := g.κ nm) (l := 0) (h := hh) (lv := lv) (hv := hv) (b1.imp (fun q => ⟨q.2.1, by omega⟩) id) (b2.imp (fun q => ⟨q.2.1, by omega⟩) id) (by omega) (by omega) w
   simp only [Instr.sliceAt, Sem.run_bind, run_underlying hu1, Result.andThen_ok, Instr.slice, hb, zf hk, Sem.run_pure]
   cases g.β nm <;> simp [Addr.add_lit]
  ·cases h
 ·rename_i s
  split at h
  ·rename_i l hh bl bh
   injection h with h; injection h with e1 e2
   subst e1 e2
   obtain ⟨ht, o1, o2, o3⟩ := ho
   obtain rfl := Rep.s_inv hu
   obtain ⟨l, rfl⟩ := Int.eq_ofNat_of_zero_le o1
   obtain ⟨hh, rfl⟩ := Int.eq_ofNat_of_zero_le (Int.le_trans o1 o2)
   have b1 := ww bl hl1 hl2
   have b2 := ww bh hh1 hh2
   simp only [Int.toNat_natCast] at *
   refine ⟨_, ?_, .str _⟩
   have hb := X0 (P := P) (b := false) (len := s.size) (cap := s.size) (l := l) (h := hh) (lv := lv) (hv := hv) (b1.imp (fun q => ⟨q.2.1, by omega⟩) id) (b2.imp (fun q => ⟨q.2.1, by omega⟩) id) (by omega) (by omega) w
   simp only [Instr.sliceAt, Sem.run_bind, run_underlying ht, Result.andThen_ok, Instr.slice, Option.isSome_none, Bool.false_eq_true, if_false, Sem.run_pure, hb]
  ·cases h
 ·cases h
def aLen (P : Program) (t : TypeId) (x : D) : Option (Prop × D) := match x with
 | (.s (.string s)) => some (P.underlying t = some .string, .s (.int .i64 s.size))
 | .nil => some (P.underlying t = some (.slice (P.elem t)), .s (.int .i64 0))
 | (.sl _ rows) => some (P.underlying t = some (.slice (P.elem t)), .s (.int .i64 rows.length))
 | .bs _ _ n => some (P.underlying t = some (.slice (P.elem t)), .s (.int .i64 n))
 | _ => none
theorem aLen_ok {P : Program} {t ty : TypeId} {x : D} {d : D} {ob : Prop} (h : aLen P t x = some (ob, d)) (ho : ob) {g : Gh} {w : World} {u : Value} (hu : RE g w x u) :
  ∃ r, (Builtin.len_ #[t] ty #[u]).run P w = .ok r w /\ Rep g.S g.up w none d r := by
 unfold aLen at h
 split at h
 ·injection h with h; injection h with e1 e2
  subst e1 e2
  obtain rfl := Rep.s_inv hu
  exact ⟨_, by simp [Builtin.len_, run_underlying ho]; rfl, .i _ _⟩
 ·injection h with h; injection h with e1 e2
  subst e1 e2
  cases hu
  exact ⟨_, run_len_slice w t ty _ _ _ ho, .i _ _⟩
 ·injection h with h; injection h with e1 e2
  subst e1 e2
  obtain ⟨a, c, rfl, -⟩ := Rep.sl_shape hu
  exact ⟨_, run_len_slice w t ty _ _ _ ho, .i _ _⟩
 ·injection h with h; injection h with e1 e2
  subst e1 e2
  obtain ⟨rfl, -⟩ := hu
  exact ⟨_, run_len_slice w t ty _ _ _ ho, .i _ _⟩
 ·cases h
def aConv (P : Program) (src dst : TypeId) (x : D) : Option (Prop × D) := match intE x with
 | some (_, n) => some ((P.underlying src).isSome = true /\ P.underlying dst = some (.int (P.intKind dst)) /\ kmin (P.intKind dst) <= n /\ n <= kmax (P.intKind dst), .s (.int (P.intKind dst) n))
 | none => none
theorem aConv_ok {P : Program} {src dst : TypeId} {x : D} {d : D} {ob : Prop} (h : aConv P src dst x = some (ob, d)) (ho : ob) {g : Gh} {w : World} {u : Value} (hu : RE g w x u) :
  ∃ r, (convert src dst u).run P w = .ok r w /\ Rep g.S g.up w none d r := by
 unfold aConv at h
 split at h
 ·rename_i k n hx
  injection h with h; injection h with e1 e2
  subst e1 e2
  obtain rfl := vp hx hu
  refine ⟨_, ?_, .i _ _⟩
  rw [run_convert_int w src dst k n ho.1 ho.2.1, uu _ _ ho.2.2.1 ho.2.2.2]
 ·cases h
def aNil (x : D) : Option (Prop × D) := match x with
 | .pt row => some (True, .pt row)
 | .bx id o => some (True, .bx id o)
 | .el id k i o => some (True, .el id k i o)
 | .fn f cs => some (True, .fn f cs)
 | _ => none
def lift2 (o1 o2 : Prop) : Option (Prop × D) -> Option (Prop × D)
 | some (ob, d) => some (o1 /\ o2 /\ ob, d)
 | none => none
def aPick (c a b : D) : Option (Prop × D) := match xu c, xu a, xu b with
 | (.s (.bool vc)), (.s (.bool va)), (.s (.bool vb)) => some (oblT c /\ (vc = true -> oblT a) /\ (vc = false -> oblT b), .s (.bool (bif vc then va else vb)))
 | (.s (.bool vc)), (.s (.bool va)), .un => some (oblT c /\ vc = true /\ oblT a, .s (.bool va))
 | (.s (.bool vc)), .un, (.s (.bool vb)) => some (oblT c /\ vc = false /\ oblT b, .s (.bool vb))
 | _, _, _ => none
def Zy (x : D) (i : Nat) : Option (Prop × D) := match x with
 | .tup xs => match xs[i]? with
  | some y => some (True, y)
  | none => none
 | _ => none
def oblO : Option D -> Prop
 | some x => oblT x
 | none => True
def aop1 (P : Program) (σ : St) : Op -> Option (Prop × D)
 | .move x => some (True, ev σ x)
 | .assign x => some (True, ev σ x)
 | .pick c a b => aPick (ev σ c) (ev σ a) (ev σ b)
 | .binOp op t x y _ => lift2 (oblT (ev σ x)) (oblT (ev σ y)) (aBin P op t (xu (ev σ x)) (xu (ev σ y)))
 | .unOp op _ x => lift2 (oblT (ev σ x)) True (aUn op (xu (ev σ x)))
 | .load t x => lift2 (oblT (ev σ x)) True (uS P σ t (xu (ev σ x)))
 | .fieldAddr s x f => lift2 (oblT (ev σ x)) True (uQ P s (xu (ev σ x)) f)
 | .field s x f => lift2 (oblT (ev σ x)) True (Wa P s (xu (ev σ x)) f)
 | .indexAddr t x i => lift2 (oblT (ev σ x)) (oblT (ev σ i)) (uR P t (xu (ev σ x)) (xu (ev σ i)))
 | .index t x i => lift2 (oblT (ev σ x)) (oblT (ev σ i)) (Wb P t (xu (ev σ x)) (xu (ev σ i)))
 | .slice t x lo hi none => lift2 (oblT (ev σ x)) (oblO (lo.map (ev σ)) /\ oblO (hi.map (ev σ))) (Wc P t (xu (ev σ x)) (lo.map fun y => xu (ev σ y)) (hi.map fun y => xu (ev σ y)))
 | .extract x i => Zy (ev σ x) i
 | .nilCheck x => lift2 (oblT (ev σ x)) True (aNil (xu (ev σ x)))
 | .convert s d x => lift2 (oblT (ev σ x)) True (aConv P s d (xu (ev σ x)))
 | .call ⟨.builtin .len, args, ts⟩ => match args.toList, ts.toList with
  | [x], [t] => lift2 (oblT (ev σ x)) True (aLen P t (xu (ev σ x)))
  | _, _ => none
 | _ => none
theorem yk {o1 o2 ob : Prop} {r : Option (Prop × D)} {y : D} (h : lift2 o1 o2 r = some (ob, y)) : ∃ ob', r = some (ob', y) /\ ob = (o1 /\ o2 /\ ob') := by
 unfold lift2 at h
 split at h
 ·injection h with h; injection h with e1 e2
  subst e2
  exact ⟨_, rfl, e1.symm⟩
 ·cases h
theorem aop1_ok {x : Cx} {σ : St} {o : Oper} {ob : Prop} {y : D} (h : aop1 x.P σ o.op = some (ob, y)) (ho : ob) {g : Gh} {a : Act} {w : World} (hr : Rel x g σ a w) :
  ∃ r, (execOp a.eval o).run x.P w = .ok (.value r) w /\ RT g w y r := by
 have hev := vf hr
 have hb : ∀ z, oblT (ev σ z) -> RE g w (xu (ev σ z)) (a.eval z) := fun z hz => y8 (hev z) hz
 unfold aop1 at h
 split at h
 ·rename_i z hop
  injection h with h; injection h with e1 e2
  subst e2
  exact ⟨_, by simp only [execOp, hop, Sem.run_pure], hev z⟩
 ·rename_i z hop
  injection h with h; injection h with e1 e2
  subst e2
  exact ⟨_, by simp only [execOp, hop, Sem.run_pure], hev z⟩
 ·rename_i c p q hop
  unfold aPick at h
  split at h
  ·rename_i vc va vb hc ha hb'
   injection h with h; injection h with e1 e2
   subst e1 e2
   obtain ⟨o1, o2, o3⟩ := ho
   have c1 := hb c o1
   rw [hc] at c1
   have c1 : a.eval c = .bool vc := Rep.s_inv c1
   cases vc with
   | true =>
    have c2 := hb p (o2 rfl)
    rw [ha] at c2
    have c2 : a.eval p = .bool va := Rep.s_inv c2
    exact ⟨.bool va, by simp [execOp, hop, c1, asBool, c2], Rep.rt (.b _)⟩
   | false =>
    have c2 := hb q (o3 rfl)
    rw [hb'] at c2
    have c2 : a.eval q = .bool vb := Rep.s_inv c2
    exact ⟨.bool vb, by simp [execOp, hop, c1, asBool, c2], Rep.rt (.b _)⟩
  ·rename_i vc va hc ha hb'
   injection h with h; injection h with e1 e2
   subst e1 e2
   obtain ⟨o1, rfl, o2⟩ := ho
   have c1 := hb c o1
   rw [hc] at c1
   have c1 : a.eval c = .bool true := Rep.s_inv c1
   have c2 := hb p o2
   rw [ha] at c2
   have c2 : a.eval p = .bool va := Rep.s_inv c2
   exact ⟨.bool va, by simp [execOp, hop, c1, asBool, c2], Rep.rt (.b _)⟩
  ·rename_i vc vb hc ha hb'
   injection h with h; injection h with e1 e2
   subst e1 e2
   obtain ⟨o1, rfl, o2⟩ := ho
   have c1 := hb c o1
   rw [hc] at c1
   have c1 : a.eval c = .bool false := Rep.s_inv c1
   have c2 := hb q o2
   rw [hb'] at c2
   have c2 : a.eval q = .bool vb := Rep.s_inv c2
   exact ⟨.bool vb, by simp [execOp, hop, c1, asBool, c2], Rep.rt (.b _)⟩
  ·cases h
 ·rename_i op t p q yt hop
  obtain ⟨ob', h', rfl⟩ := yk h; replace h := h'
  obtain ⟨r, r1, r2⟩ := aBin_ok h ho.2.2 (hb p ho.1) (hb q ho.2.1) p q
  refine ⟨r, ?_, r2.rt⟩
  simp only [execOp, hop, Sem.run_bind] at r1 ⊢
  rw [r1]; rfl
 ·rename_i op t p hop
  obtain ⟨ob', h', rfl⟩ := yk h; replace h := h'
  obtain ⟨r, r1, r2⟩ := aUn_ok (P := x.P) h ho.2.2 (hb p ho.1)
  exact ⟨r, by simp only [execOp, hop, Sem.run_bind, r1]; rfl, r2.rt⟩
 ·rename_i t p hop
  obtain ⟨ob', h', rfl⟩ := yk h; replace h := h'
  obtain ⟨r, r1, r2⟩ := VA h ho.2.2 hr (hb p ho.1)
  exact ⟨r, by simp only [execOp, hop, Sem.run_bind, r1]; rfl, r2.rt⟩
 ·rename_i t p f hop
  obtain ⟨ob', h', rfl⟩ := yk h; replace h := h'
  obtain ⟨r, r1, r2⟩ := Vm h (hb p ho.1)
  exact ⟨r, by simp only [execOp, hop, Sem.run_bind, r1]; rfl, r2.rt⟩
 ·rename_i t p f hop
  obtain ⟨ob', h', rfl⟩ := yk h; replace h := h'
  obtain ⟨r, r1, r2⟩ := aField_ok h ho.2.2 (hb p ho.1)
  exact ⟨r, by simp only [execOp, hop, Sem.run_bind, r1]; rfl, r2.rt⟩
 ·rename_i t p i hop
  obtain ⟨ob', h', rfl⟩ := yk h; replace h := h'
  obtain ⟨r, r1, r2⟩ := Vn h ho.2.2 (hb p ho.1) (hb i ho.2.1)
  exact ⟨r, by simp only [execOp, hop, Sem.run_bind, r1]; rfl, r2.rt⟩
 ·rename_i t p i hop
  obtain ⟨ob', h', rfl⟩ := yk h; replace h := h'
  obtain ⟨r, r1, r2⟩ := aIndex_ok h ho.2.2 (hb p ho.1) (hb i ho.2.1)
  exact ⟨r, by simp only [execOp, hop, Sem.run_bind, r1]; rfl, r2.rt⟩
 ·rename_i t p lo hi hop
  obtain ⟨ob', h', rfl⟩ := yk h; replace h := h'
  obtain ⟨r, r1, r2⟩ := aSlice_ok (lv := lo.map a.eval) (hv := hi.map a.eval) h ho.2.2 (hb p ho.1) (by cases lo <;> rfl) (fun z v hz hv => by
   cases lo with
   | none => cases hz
   | some l => injection hz with hz; injection hv with hv; subst hz hv; exact hb l ho.2.1.1) (by cases hi <;> rfl) (fun z v hz hv => by
   cases hi with
   | none => cases hz
   | some l => injection hz with hz; injection hv with hv; subst hz hv; exact hb l ho.2.1.2)
  exact ⟨r, by simp only [execOp, hop, Sem.run_bind, Option.map_none, r1]; rfl, r2.rt⟩
 ·rename_i p i hop
  unfold Zy at h
  split at h
  ·rename_i xs hx
   split at h
   ·rename_i z hz
    injection h with h; injection h with e1 e2
    subst e1 e2
    have h1 := hev p
    rw [hx] at h1
    obtain ⟨us, hu, hl, h2⟩ := h1
    have hlt : i < us.length := by rw [hl]; exact (List.getElem?_eq_some_iff.1 hz).1
    refine ⟨us[i], ?_, (h2 i z _ hz (List.getElem?_eq_getElem hlt)).rt⟩
    simp [execOp, hop, hu, Instr.extract, List.getElem?_eq_getElem hlt]
   ·cases h
  ·cases h
 ·rename_i p hop
  obtain ⟨ob', h', rfl⟩ := yk h; replace h := h'
  have h1 := hb p ho.1
  unfold aNil at h
  split at h
  ·rename_i row hx
   injection h with h; injection h with e1 e2
   subst e1 e2
   rw [hx] at h1
   refine ⟨a.eval p, ?_, h1.rt⟩
   cases hv : a.eval p <;> rw [hv] at h1 <;> cases h1
   simp [execOp, hop, hv]
  ·rename_i id o hx
   injection h with h; injection h with e1 e2
   subst e1 e2
   rw [hx] at h1
   refine ⟨a.eval p, ?_, h1.rt⟩
   obtain ⟨b, -, h1⟩ := h1
   simp [execOp, hop, h1]
  ·rename_i id k i o hx
   injection h with h; injection h with e1 e2
   subst e1 e2
   rw [hx] at h1
   refine ⟨a.eval p, ?_, h1.rt⟩
   obtain ⟨b, -, h1⟩ := h1
   simp [execOp, hop, h1]
  ·rename_i f cs hx
   injection h with h; injection h with e1 e2
   subst e1 e2
   rw [hx] at h1
   refine ⟨a.eval p, ?_, h1.rt⟩
   cases hv : a.eval p <;> rw [hv] at h1 <;> cases h1
   simp [execOp, hop, hv]
  ·cases h
 ·rename_i s d p hop
  obtain ⟨ob', h', rfl⟩ := yk h; replace h := h'
  obtain ⟨r, r1, r2⟩ := aConv_ok h ho.2.2 (hb p ho.1)
  exact ⟨r, by simp only [execOp, hop, Sem.run_bind, r1]; rfl, r2.rt⟩
 ·rename_i args ts hop
  split at h
  ·rename_i p t ha ht
   obtain ⟨ob', h', rfl⟩ := yk h; replace h := h'
   obtain ⟨r, r1, r2⟩ := aLen_ok (ty := o.type) h ho.2.2 (hb p ho.1)
   refine ⟨r, ?_, r2.rt⟩
   have ea : args = #[p] := Array.ext' ha
   have et : ts = #[t] := Array.ext' ht
   subst ea et
   simp only [execOp, hop, resolve, invoke, builtin, Sem.run_bind, Sem.run_pure, Result.andThen_ok, List.map_toArray, List.map_cons, List.map_nil]
   rw [r1]; rfl
  ·cases h
 ·cases h
theorem Rep.any {S : Nat -> Prop} {up : Nat -> Option Pos} {w : World} {d : D} {v : Value} (h : Rep S up w none d v) (p : Option Pos) : Rep S up w p d v := by
 cases h with
 | s h => exact .s h
 | nil => exact .nil
 | np => exact .np
 | sl0 h => exact .sl0 h
 | sl us a b c d e => exact .sl us a b c d e
 | pt us a b => exact .pt us a b
 | fn us a => exact .fn us a
 | osl0 => exact .osl0
theorem RC.any {g : Gh} {w : World} {d : D} {v : Value} (h : RC g w none d v) (p : Option Pos) : RC g w p d v := by
 cases d with
 | bx id off => exact h
 | el id k i off => exact h
 | bs id k n => exact h
 | un => exact h
 | ag _ => exact h
 | tup _ => exact h
 | mb _ _ => exact h
 | _ => exact (Rep.any h p).rc
theorem ZB (w : World) (o : Obj) : (w.alloc o).heap[w.heap.size]? = some o := by show (w.heap.push o)[w.heap.size]? = _; simp
theorem yT (w : World) (o : Obj) : (w.alloc o).heap.size = w.heap.size + 1 := by simp
def pOut : List Nat -> Nat -> Bool
 | [], _ => true
 | a :: l, i => (i != a) && pOut l i
theorem xt {l : List Nat} {i : Nat} (h : pOut l i = true) : ∀ a ∈ l, i ≠ a := by
 induction l with
 | nil => intro a ha; cases ha
 | cons b l ih =>
  simp only [pOut, Bool.and_eq_true, bne_iff_ne, ne_eq] at h
  intro a ha
  rcases List.mem_cons.1 ha with rfl | ha
  ·exact h.1
  ·exact ih h.2 a ha
def St.setB (σ : St) (d : Nat) (o : Ob) : St := ⟨σ.t, fun i => if i = d then some o else σ.b i⟩
theorem Rel.setB {x : Cx} {g : Gh} {σ : St} {a : Act} {w : World} (h : Rel x g σ a w) {id : Nat} {o : Ob} (ho : RO g w id o) (hp : isP id = true -> g.β id = x.β0 id /\ g.κ id = x.κ0 id) : Rel x g (σ.setB id o) a w :=
 ⟨h.bel, h.fr, h.dfr, h.sz, h.tm, h.s0, h.old, h.new, h.own, fun i o' hi => by
  simp only [St.setB] at hi
  split at hi
  ·rename_i e; subst e; injection hi with hi; subst hi; exact ho
  ·exact h.ob i o' hi, fun i o' hi hq => by
  simp only [St.setB] at hi
  split at hi
  ·rename_i e; subst e; exact hp hq
  ·exact h.par i o' hi hq⟩
def lay {α : Type} (row : List α) (off : Nat) (xs : List α) : List α := row.take off ++ xs ++ row.drop (off + xs.length)
theorem lay_len {α : Type} {row : List α} {off : Nat} {xs : List α} (h : off + xs.length <= row.length) : (lay row off xs).length = row.length := by
 unfold lay; simp only [List.length_append, List.length_take, List.length_drop]; omega
theorem yZ {α : Type} {row : List α} {off : Nat} {xs : List α} (h : off + xs.length <= row.length) (j : Nat) : (lay row off xs)[j]? = if off <= j /\ j < off + xs.length then xs[j - off]? else row[j]? := by
 unfold lay
 have t1 : (row.take off).length = off := by rw [List.length_take]; omega
 rcases Nat.lt_or_ge j off with q | q
 ·rw [List.append_assoc, List.getElem?_append_left (by omega), List.getElem?_take_of_lt q, if_neg (by omega)]
 ·rw [List.append_assoc, List.getElem?_append_right (by omega), t1]
  rcases Nat.lt_or_ge (j - off) xs.length with r | r
  ·rw [List.getElem?_append_left r, if_pos (by omega)]
  ·rw [List.getElem?_append_right r, List.getElem?_drop, if_neg (by omega)]
   congr 1; omega
theorem Xk {cs : Array Value} {j : Nat} {u : Value} (h : cs.toList[j]? = some u) : cs.getD j undef = u := by
 rw [Array.getElem?_toList] at h
 rw [Array.getD_eq_getD_getElem?, h]; rfl
theorem Rel.newBox {x : Cx} {g : Gh} {σ : St} {a : Act} {w : World} (h : Rel x g σ a w) (d : Nat) (row : List D) (us : List Value) (ty : TypeId) (h1 : RCs g w row us) (hn : ∀ y ∈ row, scC (pOut [d]) y = y) (hdP : isP d = false) :
  ∃ g', Rel x g' ((σ.sc (pOut [d]) (pOut [d])).setB d (.box row)) a (w.alloc (.cells us.toArray ty)) /\ g'.β d = some w.heap.size := by
 generalize hbn : w.heap.size = bn
 have hold : ∀ b, b < bn -> (w.alloc (.cells us.toArray ty)).heap[b]? = w.heap[b]? := fun b hb => Below.heap_alloc _ _ _ (by omega)
 have ev : Ev (fun _ => True) id (pOut [d]) (pOut [d]) g ⟨fun i => if i = d then some bn else g.β i, g.κ, fun b => if b = bn then some (.root d) else g.up b, g.S⟩ w (w.alloc (.cells us.toArray ty)) := by
  refine ⟨⟨fun b hb => ⟨hb, hold b (by have := h.new b hb; omega)⟩, fun b p hb _ => ?_, fun b p o _ _ => ⟨trivial, rfl⟩⟩, fun i hi => ?_, fun i hi => ⟨hi, trivial, rfl⟩⟩
  ·have hlt := (h.own b p hb).1
   refine ⟨?_, hold b (by omega)⟩
   show (if b = bn then _ else _) = _
   rw [if_neg (by omega)]; exact hb
  ·have := xt hi d (by simp)
   exact ⟨by show (if i = d then _ else _) = _; rw [if_neg this], rfl⟩
 have hrow := h1.ev ev
 have hR := h.ev ev ((Below.refl _ _).alloc (Nat.zero_le _) _) (fun b hb hg => hold b (by have := h.bel.size; omega)) (fun b _ hs => .inl hs) (fun b hs => by rw [yT]; have := h.new b hs; omega) (fun b p hb => by
  rw [yT]
  simp only at hb
  split at hb
  ·rename_i e
   subst e
   exact ⟨by omega, fun q => by have := h.bel.size; omega, fun q => by have := h.new _ q; omega⟩
  ·obtain ⟨o1, o2, o3⟩ := h.own b p hb
   exact ⟨by omega, o2, o3⟩)
 refine ⟨_, hR.setB ⟨bn, us.toArray, ty, by simp, by simp, by rw [<- hbn]; exact ZB _ _, by simp [h1.1], fun j y hy => ?_⟩ (fun q => by rw [hdP] at q; cases q), by simp⟩
 have hj : j < us.length := by rw [h1.1]; exact (List.getElem?_eq_some_iff.1 hy).1
 have hu : us[j]? = some us[j] := List.getElem?_eq_getElem hj
 rw [Xk (u := us[j]) (by simp)]
 have := hrow.2 j (scC (pOut [d]) y) us[j] (by rw [List.getElem?_map, hy]; rfl) hu
 rw [hn y (List.mem_of_getElem? hy)] at this
 exact this.any _
theorem Rel.store {x : Cx} {g : Gh} {σ : St} {a : Act} {w : World} (h : Rel x g σ a w) (id off : Nat) (row xs : List D) (hb : σ.b id = some (.box row)) (us : List Value) (h1 : RCs g w xs us) (hl : off + xs.length <= row.length) {b : Nat} (hβ : g.β id = some b) :
  ∃ w', (storeCells ⟨b, off, none⟩ us).run x.P w = .ok () w' /\ Rel x g (σ.setB id (.box (lay row off xs))) a w' := by
 obtain ⟨b', cs, ty, b1, b2, b3, b4, b5⟩ := h.ob id _ hb
 rw [hβ] at b1; injection b1 with b1; subst b1
 have hul := h1.1
 have hone : ∀ u ∈ us, u.oneCell' = true := fun u hu => by
  obtain ⟨j, hj, rfl⟩ := List.getElem_of_mem hu
  exact (h1.2 j (xs[j]'(by rw [<- hul]; exact hj)) us[j] (by rw [List.getElem?_eq_getElem]) (by rw [List.getElem?_eq_getElem])).one
 have hr := run_storeCells_at x.P b off ty us 0 cs w b3 (by simp; omega) hone
 refine ⟨_, hr, ?_⟩
 simp only [Nat.add_zero]
 generalize hcs : (cs.toList.take off ++ us ++ cs.toList.drop (off + us.length)).toArray = cs'
 have hcsl : cs'.toList = lay cs.toList off us := by subst hcs; rfl
 have hcl : cs.toList.length = row.length := by rw [Array.length_toList, b4]
 have ev : Ev (fun p => p ≠ .root id) (fun p => p) pAll (pOut [id]) g g w (w.setRow b cs') := by
  refine ⟨⟨fun c hc => ⟨hc, setRow_other _ _ _ _ (fun e => (h.own b _ b2).2.2 (e ▸ hc))⟩, fun c p hc hp => ⟨hc, setRow_other _ _ _ _ (fun e => ?_)⟩, fun c p o _ _ => ⟨by simp, rfl⟩⟩, fun i _ => ⟨rfl, rfl⟩, fun i hi => ⟨rfl, ?_, rfl⟩⟩
  ·subst e; rw [b2] at hc; injection hc with hc; exact hp hc.symm
  ·have := xt hi id (by simp)
   intro e; injection e with e; exact this e
 have hR := h.ev ev ⟨rfl, rfl, rfl, by simp, fun c hc => by omega⟩ (fun c hc hg => setRow_other _ _ _ _ (fun e => hg (e ▸ (h.own b _ b2).2.1 (e ▸ hc)))) (fun c _ hs => .inl hs) (fun c hs => by simpa using h.new c hs) (fun c p hc => by simpa using h.own c p hc)
 have hrow := h1.ev ev
 rw [uC] at hrow
 have hset := hR.setB (id := id) (o := .box (lay row off xs)) ⟨b, cs', ty, hβ, b2, setRow_heap _ _ _ _ _ _ b3, by
  rw [lay_len hl, <- Array.length_toList, hcsl, lay_len (by omega), hcl], fun j y hy => ?_⟩ (h.par id _ hb)
 ·refine ⟨hset.bel, hset.fr, hset.dfr, hset.sz, fun i => ?_, hset.s0, hset.old, hset.new, hset.own, fun i o hi => ?_, fun i o hi hq => ?_⟩
  ·have := hset.tm i
   simp only [St.setB, St.sc, Uf] at this
   exact this
  ·simp only [St.setB] at hi
   split at hi
   ·rename_i e; subst e
    exact hset.ob i o (by simp only [St.setB, if_true]; exact hi)
   ·rename_i e
    refine hset.ob i o ?_
    simp only [St.setB, if_neg e, St.sc]
    rw [if_pos (by simp [pOut, e]), hi, Option.map_some, Ue]
  ·simp only [St.setB] at hi
   split at hi
   ·rename_i e; subst e; exact h.par i _ hb hq
   ·exact h.par i o hi hq
 ·rw [yZ hl] at hy
  have hg : cs'.getD j undef = (lay cs.toList off us).getD j undef := by
   rw [List.getD_eq_getElem?_getD, Array.getD_eq_getD_getElem?, <- hcsl, Array.getElem?_toList]
  split at hy
  ·rename_i hj
   have hlt : j - off < us.length := by omega
   have hu : us[j - off]? = some us[j - off] := List.getElem?_eq_getElem hlt
   have := hrow.2 _ y _ hy hu
   rw [hg, List.getD_eq_getElem?_getD, yZ (by omega), if_pos (by omega), hu]
   exact this.any _
  ·rename_i hj
   have := (b5 j y hy).ev ev (fun z hz => by injection hz with hz; subst hz; simp)
   rw [Xs] at this
   rw [hg, List.getD_eq_getElem?_getD, yZ (by omega), if_neg (by omega), Array.getElem?_toList, <- Array.getD_eq_getD_getElem?]
   exact this
theorem Rep.osl_take {S : Nat -> Prop} {up : Nat -> Option Pos} {w : World} {p : Option Pos} {e k c : Nat} {rows : List (List D)} {a : Option Addr} (h : Rep S up w p (.osl e k rows) (.slice a rows.length c)) (n : Nat) (hn : n <= rows.length) : Rep S up w p (.osl e k (rows.take n)) (.slice a n c) := by
 have hl : (rows.take n).length = n := by rw [List.length_take]; omega
 cases h with
 | osl0 =>
  have : n = 0 := by simpa using hn
  subst this
  exact .osl0
 | osl cs h1 h2 h3 h4 h5 h6 h7 =>
  have key := Rep.osl (S := S) (rows := rows.take n) (c := c) cs h1 h2 (by omega) h4 h5 (fun i row hi => ?_) (fun i j row d hi hj => ?_)
  ·rw [hl] at key; exact key
  ·rw [List.getElem?_take] at hi
   split at hi
   ·exact h6 i row hi
   ·cases hi
  ·rw [List.getElem?_take] at hi
   split at hi
   ·exact h7 i j row d hi hj
   ·cases hi
def zN : D -> Bool
 | .bx _ _ => false
 | .el _ _ _ _ => false
 | .bs _ _ _ => false
 | .ag _ => false
 | .un => false
 | .tup _ => false
 | .mb _ _ => false
 | _ => true
def fdC (σ : St) : D -> Option (Prop × D)
 | .bs id k n => match σ.b id with
  | some (.arr e k' rows) => some (k' = k /\ n <= rows.length, .osl e k (rows.take n))
  | _ => none
 | .bx id off => match σ.b id with
  | some (.box row) => some (off = off /\ row.all zN = true, .opa off row)
  | _ => none
 | .el _ _ _ _ => none
 | .ag _ => none
 | .un => none
 | .tup _ => none
 | .mb _ _ => none
 | d => some (True, d)
def idC : D -> Option Nat
 | .bs id _ _ => some id
 | .bx id _ => some id
 | _ => none
theorem RC.deep {g : Gh} {w : World} {p : Option Pos} {d : D} {v : Value} (h : RC g w p d v) (hd : zN d = true) : Rep g.S g.up w p d v := by
 cases d <;> first | exact h | cases hd
theorem Xp {x : Cx} {g : Gh} {σ : St} {a : Act} {w : World} (hr : Rel x g σ a w) {y d : D} {ob : Prop} {u : Value} {p : Option Pos} (h : fdC σ y = some (ob, d)) (ho : ob) (hu : RC g w p y u) :
  (idC y = none /\ Rep g.S g.up w p d u) \/ ∃ id, idC y = some id /\ Rep g.S g.up w (some (.root id)) d u := by
 cases y with
 | bs id k n =>
  right
  simp only [fdC] at h
  split at h
  ·rename_i e k' rows hb
   injection h with h; injection h with e1 e2
   subst e1 e2
   obtain ⟨rfl, hn⟩ := ho
   obtain ⟨rfl, -⟩ := hu
   exact ⟨id, rfl, Rep.osl_take (hr.ob id _ hb) n hn⟩
  ·cases h
 | bx id off =>
  right
  simp only [fdC] at h
  split at h
  ·rename_i row hb
   injection h with h; injection h with e1 e2
   subst e1 e2
   obtain ⟨-, hd⟩ := ho
   obtain ⟨b, hb', rfl⟩ := hu
   obtain ⟨b0, cs, ty, b1, b2, b3, b4, b5⟩ := hr.ob id _ hb
   rw [b1] at hb'; injection hb' with hb'; subst hb'
   exact ⟨id, rfl, .opa cs b2 b3 b4 fun j d hj => (b5 j d hj).deep (List.all_eq_true.1 hd d (List.mem_of_getElem? hj))⟩
  ·cases h
 | el _ _ _ _ => cases h
 | ag _ => cases h
 | un => cases h
 | tup _ => cases h
 | mb _ _ => cases h
 | _ => (simp only [fdC] at h; injection h with h; injection h with e1 e2; subst e2; exact .inl ⟨rfl, hu⟩)
theorem Rel.newArr {x : Cx} {g : Gh} {σ : St} {a : Act} {w w1 : World} (h : Rel x g σ a w) (hw : w1 = w \/ w1 = w.drew) (d e k : Nat) (rows : List (List D)) (cs : Array Value) (c : Nat) (ids : List Nat) (tgt : Nat -> Nat) (h1 : rows.length <= c) (h2 : c <= maxLen) (h3 : cs.size = c * k) (hdP : isP d = false)
  (h4 : ∀ (i : Nat) (row : List D), rows[i]? = some row -> row.length = k)
  (h5 : ∀ (i j : Nat) (row : List D) (y : D), rows[i]? = some row -> row[j]? = some y -> Rep g.S g.up w none y (cs.getD (i * k + j) undef) \/ ∃ id ∈ ids, tgt id = i * k + j /\ Rep g.S g.up w (some (.root id)) y (cs.getD (i * k + j) undef)) :
  ∃ g', Rel x g' ((σ.sc (pOut (d :: ids)) (pOut (d :: ids))).setB d (.arr e k rows)) a (w1.alloc (.cells cs e)) /\ RC g' (w1.alloc (.cells cs e)) none (.bs d k rows.length) (.slice (some ⟨w.heap.size, 0, none⟩) rows.length c) := by
 have hs1 : w1.heap = w.heap := by rcases hw with rfl | rfl <;> rfl
 have hb1 : Below 0 w w1 := by rcases hw with rfl | rfl; exact Below.refl _ _; exact (Below.refl _ _).drew
 generalize hbn : w.heap.size = bn
 have hold : ∀ b, b < bn -> (w1.alloc (.cells cs e)).heap[b]? = w.heap[b]? := fun b hb => by rw [Below.heap_alloc _ _ _ (by rw [hs1]; omega), hs1]
 let π : Pos -> Pos := fun p => match p with
  | .root id => if id ∈ ids then .cell bn (tgt id) else .root id
  | p => p
 have ev : Ev (fun _ => True) π (pOut (d :: ids)) (pOut (d :: ids)) g ⟨fun i => if i = d then some bn else g.β i, fun i => if i = d then c else g.κ i, fun b => if b = bn then some (.root d) else (g.up b).map π, g.S⟩ w (w1.alloc (.cells cs e)) := by
  refine ⟨⟨fun b hb => ⟨hb, hold b (by have := h.new b hb; omega)⟩, fun b p hb _ => ?_, fun b p o _ _ => ⟨trivial, rfl⟩⟩, fun i hi => ?_, fun i hi => ⟨hi, trivial, ?_⟩⟩
  ·have hlt := (h.own b p hb).1
   refine ⟨?_, hold b (by omega)⟩
   show (if b = bn then _ else _) = _
   rw [if_neg (by omega), hb]; rfl
  ·have := xt hi d (by simp)
   exact ⟨by show (if i = d then _ else _) = _; rw [if_neg this], by show (if i = d then _ else _) = _; rw [if_neg this]⟩
  ·show (if i ∈ ids then _ else _) = _
   rw [if_neg (fun q => xt hi i (List.mem_cons_of_mem _ q) rfl)]
 have hR := h.ev ev (hb1.trans ((Below.refl _ _).alloc (Nat.zero_le _) _)) (fun b hb hg => hold b (by have := h.bel.size; omega)) (fun b _ hs => .inl hs) (fun b hs => by rw [yT, hs1]; have := h.new b hs; omega) (fun b p hb => by
  rw [yT, hs1]
  simp only at hb
  split at hb
  ·rename_i q
   subst q
   exact ⟨by omega, fun q => by have := h.bel.size; omega, fun q => by have := h.new _ q; omega⟩
  ·obtain ⟨p', hp', -⟩ := Option.map_eq_some_iff.1 hb
   obtain ⟨o1, o2, o3⟩ := h.own b p' hp'
   exact ⟨by omega, o2, o3⟩)
 refine ⟨_, hR.setB (id := d) (o := .arr e k rows) ?_ (fun q => by rw [hdP] at q; cases q), ?_⟩
 ·show Rep _ _ _ _ _ _
  simp only [if_true, Option.map_some]
  refine .osl cs (by simp) (by rw [<- hbn, <- hs1]; exact ZB _ _) h1 h2 h3 h4 fun i j row y hi hj => ?_
  rcases h5 i j row y hi hj with q | ⟨id, hid, ht, q⟩
  ·have := Rep.move ev.toMv q (fun z hz => by cases hz)
   exact this.any _
  ·have := Rep.move ev.toMv q (fun z hz => trivial)
   simp only [Option.map_some, π, if_pos hid, ht] at this
   exact this
 ·exact ⟨by simp, by simpa using h1, by simpa using h2, fun q => by simp at q⟩
theorem Rel.storeArr {x : Cx} {g : Gh} {σ : St} {a : Act} {w : World} (h : Rel x g σ a w) (id e k i off : Nat) (rows : List (List D)) (xs : List D) (hb : σ.b id = some (.arr e k rows)) (us : List Value) (ids : List Nat) (tgt : Nat -> Nat) (hi : i < rows.length) (hl : off + xs.length <= k) (hid : id ∉ ids) (hul : us.length = xs.length)
  (h5 : ∀ (j : Nat) (y : D) (u : Value), xs[j]? = some y -> us[j]? = some u -> Rep g.S g.up w none y u \/ ∃ id ∈ ids, tgt id = j /\ Rep g.S g.up w (some (.root id)) y u) {b : Nat} (hβ : g.β id = some b) :
  ∃ w' g', (storeCells ⟨b, i * k + off, none⟩ us).run x.P w = .ok () w' /\ Rel x g' ((σ.sc (pOut ids) (pOut ids)).setB id (.arr e k (rows.set i (lay (rows.getD i []) off xs)))) a w' := by
 have hR0 : Rep g.S g.up w (some (.root id)) (.osl e k rows) (.slice ((g.β id).map fun b => ⟨b, 0, none⟩) rows.length (g.κ id)) := h.ob id _ hb
 rw [hβ, Option.map_some] at hR0
 cases hR0 with
 | @osl _ _ _ _ _ _ cs q1 q2 q3 q4 q5 q6 q7 =>
  have hg : rows[i]? = some rows[i] := List.getElem?_eq_getElem hi
  have hrl := q6 i _ hg
  have hik : i * k + k <= cs.size := by
   have h1 : (i + 1) * k <= g.κ id * k := Nat.mul_le_mul_right _ (by omega)
   rw [Nat.add_mul, Nat.one_mul] at h1; omega
  have hone : ∀ u ∈ us, u.oneCell' = true := fun u hu => by
   obtain ⟨j, hj, rfl⟩ := List.getElem_of_mem hu
   rcases h5 j (xs[j]'(by rw [<- hul]; exact hj)) us[j] (by rw [List.getElem?_eq_getElem]) (by rw [List.getElem?_eq_getElem]) with q | ⟨_, _, _, q⟩ <;> exact q.one
  have hr := run_storeCells_at x.P b (i * k + off) e us 0 cs w q2 (by simp; omega) hone
  simp only [Nat.add_zero] at hr
  generalize hcs : (cs.toList.take (i * k + off) ++ us ++ cs.toList.drop (i * k + off + us.length)).toArray = cs' at hr
  have hcsl : cs'.toList = lay cs.toList (i * k + off) us := by subst hcs; rfl
  have hfit : i * k + off + us.length <= cs.toList.length := by have hcl : cs.toList.length = cs.size := Array.length_toList; omega
  let π : Pos -> Pos := fun p => match p with
   | .root m => if m ∈ ids then .cell b (i * k + off + tgt m) else .root m
   | p => p
  have ev : Ev (fun p => p ≠ .root id) π (pOut ids) (pOut (id :: ids)) g ⟨g.β, g.κ, fun c => (g.up c).map π, g.S⟩ w (w.setRow b cs') := by
   refine ⟨⟨fun c hc => ⟨hc, setRow_other _ _ _ _ (fun e => (h.own b _ q1).2.2 (e ▸ hc))⟩, fun c p hc hp => ⟨by show (g.up c).map π = _; rw [hc]; rfl, setRow_other _ _ _ _ (fun e => ?_)⟩, fun c p o _ _ => ⟨by simp, rfl⟩⟩, fun m _ => ⟨rfl, rfl⟩, fun m hm => ⟨?_, ?_, ?_⟩⟩
   ·subst e; rw [q1] at hc; injection hc with hc; exact hp hc.symm
   ·simp only [pOut, Bool.and_eq_true] at hm; exact hm.2
   ·have := xt hm id (by simp)
    intro e; injection e with e; exact this e
   ·show (if m ∈ ids then _ else _) = _
    rw [if_neg (fun q => xt hm m (List.mem_cons_of_mem _ q) rfl)]
  have hR := h.ev ev ⟨rfl, rfl, rfl, by simp, fun c hc => by omega⟩ (fun c hc hg => setRow_other _ _ _ _ (fun e => hg (e ▸ (h.own b _ q1).2.1 (e ▸ hc)))) (fun c _ hs => .inl hs) (fun c hs => by simpa using h.new c hs) (fun c p hc => by
   simp only at hc
   obtain ⟨p', hp', -⟩ := Option.map_eq_some_iff.1 hc
   simpa using h.own c p' hp')
  have hset := hR.setB (id := id) (o := .arr e k (rows.set i (lay (rows.getD i []) off xs))) (by
   show Rep _ _ _ _ _ _
   simp only [hβ, Option.map_some]
   have key := Rep.osl (S := g.S) (up := fun c => (g.up c).map π) (w := w.setRow b cs') (p := .root id) (e := e) (k := k) (rows := rows.set i (lay (rows.getD i []) off xs)) (b := b) (c := g.κ id) cs' (by
    show (g.up b).map π = _
    rw [q1]
    show some (if id ∈ ids then _ else _) = _
    rw [if_neg hid]) (setRow_heap _ _ _ _ _ _ q2) (by simpa using q3) q4 (by rw [<- Array.length_toList, hcsl, lay_len hfit, Array.length_toList]; exact q5) (fun i' row hi' => ?_) (fun i' j row y hi' hj => ?_)
   ·exact key
   ·rw [List.getElem?_set] at hi'
    split at hi'
    ·rename_i e; subst e
     injection hi' with hi'
     subst hi'
     rw [lay_len (by rw [xZ hg, hrl]; exact hl), xZ hg, hrl]
    ·exact q6 i' row hi'
   ·have hgd : ∀ m, cs'.getD m undef = (lay cs.toList (i * k + off) us).getD m undef := fun m => by
     rw [List.getD_eq_getElem?_getD, Array.getD_eq_getD_getElem?, <- hcsl, Array.getElem?_toList]
    have keep : ∀ (row0 : List D), rows[i']? = some row0 -> row0[j]? = some y -> ¬ (i * k + off <= i' * k + j /\ i' * k + j < i * k + off + us.length) -> Rep g.S (fun c => (g.up c).map π) (w.setRow b cs') (some (.cell b (i' * k + j))) y (cs'.getD (i' * k + j) undef) := by
     intro row0 r1 r2 r3
     have := Rep.move ev.toMv (q7 i' j row0 y r1 r2) (fun z hz => by injection hz with hz; subst hz; simp)
     rw [hgd, List.getD_eq_getElem?_getD, yZ hfit, if_neg r3, Array.getElem?_toList, <- Array.getD_eq_getD_getElem?]
     exact this
    rw [List.getElem?_set] at hi'
    split at hi'
    ·rename_i e; subst e
     injection hi' with hi'
     subst hi'
     rw [xZ hg, yZ (by rw [hrl]; exact hl)] at hj
     split at hj
     ·rename_i hjo
      have hlt : j - off < us.length := by omega
      have hu : us[j - off]? = some us[j - off] := List.getElem?_eq_getElem hlt
      rw [hgd, List.getD_eq_getElem?_getD, yZ hfit, if_pos (by omega), show i * k + j - (i * k + off) = j - off by omega, hu]
      rcases h5 _ y _ hj hu with q | ⟨m, hm, ht, q⟩
      ·exact (Rep.move ev.toMv q (fun z hz => by cases hz)).any _
      ·have := Rep.move ev.toMv q (fun z hz => by injection hz with hz; subst hz; intro e; injection e with e; exact hid (e ▸ hm))
       simp only [Option.map_some, π, if_pos hm, ht] at this
       rw [show i * k + off + (j - off) = i * k + j by omega] at this
       exact this
     ·rename_i hjo
      exact keep _ hg hj (by omega)
    ·rename_i hne
     have hjk : j < k := by rw [<- q6 i' row hi']; exact (List.getElem?_eq_some_iff.1 hj).1
     refine keep row hi' hj fun ⟨c1, c2⟩ => ?_
     rcases Nat.lt_or_gt_of_ne hne with r | r
     ·have : (i + 1) * k <= i' * k := Nat.mul_le_mul_right _ r
      rw [Nat.add_mul, Nat.one_mul] at this; omega
     ·have : (i' + 1) * k <= i * k := Nat.mul_le_mul_right _ r
      rw [Nat.add_mul, Nat.one_mul] at this; omega) (h.par id _ hb)
  refine ⟨_, _, hr, hset.bel, hset.fr, hset.dfr, hset.sz, hset.tm, hset.s0, hset.old, hset.new, hset.own, fun m o hm => ?_, fun m o hm hq => ?_⟩
  ·simp only [St.setB, St.sc] at hm
   split at hm
   ·rename_i e; subst e
    exact hset.ob m o (by simp only [St.setB, if_true]; exact hm)
   ·rename_i hne
    refine hset.ob m o ?_
    simp only [St.setB, if_neg hne, St.sc]
    rw [show pOut (id :: ids) m = pOut ids m by simp [pOut, hne]]
    exact hm
  ·simp only [St.setB, St.sc] at hm
   split at hm
   ·rename_i e; subst e; exact h.par m _ hb hq
   ·split at hm
    ·obtain ⟨o', h1, rfl⟩ := Option.map_eq_some_iff.1 hm
     exact h.par m o' h1 hq
    ·cases hm
theorem Rel.storeHol {x : Cx} {g : Gh} {σ : St} {a : Act} {w : World} (h : Rel x g σ a w) (id e k i0 c0 : Nat) (rows : List (List D)) (r d : D) (hb : σ.b id = some (.hol e k rows i0 c0 r)) (us : List Value) (h1 : RCs g w [d] us) {b : Nat} (hβ : g.β id = some b) :
  ∃ w', (storeCells ⟨b, i0 * k + c0, none⟩ us).run x.P w = .ok () w' /\ Rel x g (σ.setB id (.hol e k rows i0 c0 d)) a w' := by
 obtain ⟨b', cs, b1, b2, b3, b4, b5, b6, b7, b8, b9, b10, b11⟩ := h.ob id _ hb
 rw [hβ] at b1; injection b1 with b1; subst b1
 have hul : us.length = 1 := h1.1
 have hone : ∀ u ∈ us, u.oneCell' = true := fun u hu => by
  obtain ⟨j, hj, rfl⟩ := List.getElem_of_mem hu
  exact (h1.2 j ([d][j]'(by rw [hul] at hj; exact hj)) us[j] (by rw [List.getElem?_eq_getElem]) (by rw [List.getElem?_eq_getElem])).one
 have hik : i0 * k + k <= cs.size := by
  have q1 : (i0 + 1) * k <= g.κ id * k := Nat.mul_le_mul_right _ (by omega)
  rw [Nat.add_mul, Nat.one_mul] at q1; omega
 have hr := run_storeCells_at x.P b (i0 * k + c0) e us 0 cs w b3 (by simp; omega) hone
 refine ⟨_, hr, ?_⟩
 simp only [Nat.add_zero]
 generalize hcs : (cs.toList.take (i0 * k + c0) ++ us ++ cs.toList.drop (i0 * k + c0 + us.length)).toArray = cs'
 have hcsl : cs'.toList = lay cs.toList (i0 * k + c0) us := by subst hcs; rfl
 have hfit : i0 * k + c0 + us.length <= cs.toList.length := by have hcl : cs.toList.length = cs.size := Array.length_toList; omega
 have hgd : ∀ m, cs'.getD m undef = (lay cs.toList (i0 * k + c0) us).getD m undef := fun m => by
  rw [List.getD_eq_getElem?_getD, Array.getD_eq_getD_getElem?, <- hcsl, Array.getElem?_toList]
 have ev : Ev (fun p => p ≠ .root id) (fun p => p) pAll (pOut [id]) g g w (w.setRow b cs') := by
  refine ⟨⟨fun c hc => ⟨hc, setRow_other _ _ _ _ (fun e => (h.own b _ b2).2.2 (e ▸ hc))⟩, fun c p hc hp => ⟨hc, setRow_other _ _ _ _ (fun e => ?_)⟩, fun c p o _ _ => ⟨by simp, rfl⟩⟩, fun i _ => ⟨rfl, rfl⟩, fun i hi => ⟨rfl, ?_, rfl⟩⟩
  ·subst e; rw [b2] at hc; injection hc with hc; exact hp hc.symm
  ·have := xt hi id (by simp)
   intro e; injection e with e; exact this e
 have hR := h.ev ev ⟨rfl, rfl, rfl, by simp, fun c hc => by omega⟩ (fun c hc hg => setRow_other _ _ _ _ (fun e => hg (e ▸ (h.own b _ b2).2.1 (e ▸ hc)))) (fun c _ hs => .inl hs) (fun c hs => by simpa using h.new c hs) (fun c p hc => by simpa using h.own c p hc)
 have hrow := h1.ev ev
 rw [uC] at hrow
 have hset := hR.setB (id := id) (o := .hol e k rows i0 c0 d) ⟨b, cs', hβ, b2, setRow_heap _ _ _ _ _ _ b3, b4, b5, by rw [<- Array.length_toList, hcsl, lay_len hfit, Array.length_toList]; exact b6, b7, b8, b9, ?_, fun i j row y r1 r2 r3 => ?_⟩ (h.par id _ hb)
 ·refine ⟨hset.bel, hset.fr, hset.dfr, hset.sz, fun i => ?_, hset.s0, hset.old, hset.new, hset.own, fun i o hi => ?_, fun i o hi hq => ?_⟩
  ·have := hset.tm i
   simp only [St.setB, St.sc, Uf] at this
   exact this
  ·simp only [St.setB] at hi
   split at hi
   ·rename_i e; subst e
    exact hset.ob i o (by simp only [St.setB, if_true]; exact hi)
   ·rename_i e
    refine hset.ob i o ?_
    simp only [St.setB, if_neg e, St.sc]
    rw [if_pos (by simp [pOut, e]), hi, Option.map_some, Ue]
  ·simp only [St.setB] at hi
   split at hi
   ·rename_i e; subst e; exact h.par i _ hb hq
   ·exact h.par i o hi hq
 ·have hu : us[0]? = some (us[0]'(by omega)) := List.getElem?_eq_getElem _
  have := hrow.2 0 d _ rfl hu
  rw [hgd, List.getD_eq_getElem?_getD, yZ hfit, if_pos (by omega), Nat.sub_self, hu]
  exact this.any _
 ·have hjk : j < k := by rw [<- b7 i row r1]; exact (List.getElem?_eq_some_iff.1 r2).1
  have hne : i * k + j ≠ i0 * k + c0 := by
   intro q
   rcases Nat.lt_trichotomy i i0 with z | z | z
   ·have : (i + 1) * k <= i0 * k := Nat.mul_le_mul_right _ z
    rw [Nat.add_mul, Nat.one_mul] at this; omega
   ·subst z; exact r3 ⟨rfl, by omega⟩
   ·have : (i0 + 1) * k <= i * k := Nat.mul_le_mul_right _ z
    rw [Nat.add_mul, Nat.one_mul] at this; omega
  have := Rep.move ev.toMv (b11 i j row y r1 r2 r3) (fun z hz => by injection hz with hz; subst hz; simp)
  rw [hgd, List.getD_eq_getElem?_getD, yZ hfit, if_neg (by omega), Array.getElem?_toList, <- Array.getD_eq_getD_getElem?]
  exact this
def Src (g : Gh) (w : World) (k : Nat) (rows : List (List D)) (vals : List Value) (src : Option Nat) : Prop :=
 vals.length = rows.length * k /\ (∀ (i : Nat) (row : List D), rows[i]? = some row -> row.length = k) /\
 ∀ (i j : Nat) (row : List D) (d : D), rows[i]? = some row -> row[j]? = some d -> ∃ u, vals[i * k + j]? = some u /\ (Rep g.S g.up w none d u \/ ∃ b, src = some b /\ Rep g.S g.up w (some (.cell b (i * k + j))) d u)
theorem Src.one {g : Gh} {w : World} {k : Nat} {rows : List (List D)} {vals : List Value} {src : Option Nat} (h : Src g w k rows vals src) (hk : 0 < k) : ∀ u ∈ vals, u.oneCell' = true := by
 intro u hu
 obtain ⟨q, hq, rfl⟩ := List.getElem_of_mem hu
 obtain ⟨h1, h2, h3⟩ := h
 rw [h1] at hq
 have hi : q / k < rows.length := (Nat.div_lt_iff_lt_mul hk).2 hq
 have hr := List.getElem?_eq_getElem hi
 have hj : q % k < (rows[q / k]).length := by rw [h2 _ _ hr]; exact Nat.mod_lt _ hk
 obtain ⟨v, hv, hR⟩ := h3 _ _ _ _ hr (List.getElem?_eq_getElem hj)
 have e : q / k * k + q % k = q := by rw [Nat.mul_comm]; exact Nat.div_add_mod q k
 rw [e, List.getElem?_eq_getElem (by rw [h1]; exact hq)] at hv
 injection hv with hv
 rw [hv]
 rcases hR with r | ⟨_, _, r⟩ <;> exact r.one
theorem Rep.vals {g : Gh} {w : World} {p : Option Pos} {k : Nat} {rows : List (List D)} {a : Option Addr} {n c : Nat} (h : Rep g.S g.up w p (.sl k rows) (.slice a n c)) (hk : 0 < k) (hn : 0 < rows.length) :
  ∃ ad vals, a = some ad /\ n = rows.length /\ Src g w k rows vals none /\ ∀ j v, vals[j]? = some v -> w.cell? (ad.add j) = some v := by
 cases h with
 | sl0 _ => simp at hn
 | @sl _ _ _ b off c us c1 c2 c3 c4 c5 =>
  let vals := (List.range (rows.length * k)).map fun q => us (q / k) (q % k)
  have hdiv : ∀ i j, j < k -> (i * k + j) / k = i /\ (i * k + j) % k = j := by
   intro i j hj
   constructor
   ·rw [Nat.add_comm, Nat.add_mul_div_right _ _ hk, Nat.div_eq_of_lt hj, Nat.zero_add]
   ·rw [Nat.add_comm, Nat.add_mul_mod_self_right, Nat.mod_eq_of_lt hj]
  refine ⟨_, vals, rfl, rfl, ⟨by simp [vals], c3, fun i j row d hi hj => ?_⟩, fun q v hq => ?_⟩
  ·have hjk : j < k := by rw [<- c3 i row hi]; exact (List.getElem?_eq_some_iff.1 hj).1
   have hik := (List.getElem?_eq_some_iff.1 hi).1
   have hlt : i * k + j < rows.length * k := by
    have : (i + 1) * k <= rows.length * k := Nat.mul_le_mul_right _ hik
    rw [Nat.add_mul, Nat.one_mul] at this; omega
   refine ⟨us i j, ?_, .inl (c5 i j row d hi hj)⟩
   simp [vals, hlt, hdiv i j hjk]
  ·have hlt : q < rows.length * k := by
    rcases Nat.lt_or_ge q (rows.length * k) with r | r
    ·exact r
    ·rw [List.getElem?_eq_none (by simpa [vals] using r)] at hq; cases hq
   have hv : us (q / k) (q % k) = v := by simpa [vals, hlt] using hq
   subst hv
   have h1 : q / k < rows.length := (Nat.div_lt_iff_lt_mul hk).2 hlt
   have hr := List.getElem?_eq_getElem h1
   have h3 : q % k < (rows[q / k]).length := by rw [c3 _ _ hr]; exact Nat.mod_lt _ hk
   have := (c4 _ _ _ _ hr (List.getElem?_eq_getElem h3)).2
   rw [Nat.add_assoc, show q / k * k + q % k = q by rw [Nat.mul_comm]; exact Nat.div_add_mod q k] at this
   rw [add_lit]; exact this
theorem Rep.osl_w {S : Nat -> Prop} {up : Nat -> Option Pos} {w : World} {p : Option Pos} {e k : Nat} {rows : List (List D)} {v : Value} (h : Rep S up w p (.osl e k rows) v) : ∀ (i : Nat) (row : List D), rows[i]? = some row -> row.length = k := by
 cases h with
 | osl0 => intro i row hi; simp at hi
 | osl cs q1 q2 q3 q4 q5 q6 q7 => exact q6
theorem Rep.ovals {g : Gh} {w : World} {p : Pos} {e k : Nat} {rows : List (List D)} {b n c : Nat} (h : Rep g.S g.up w (some p) (.osl e k rows) (.slice (some ⟨b, 0, none⟩) n c)) (hn : n = rows.length) :
  g.up b = some p /\ ∃ vals, Src g w k rows vals (some b) /\ ∀ j v, vals[j]? = some v -> w.cell? ((⟨b, 0, none⟩ : Addr).add j) = some v := by
 subst hn
 generalize hv : Value.slice (some ⟨b, 0, none⟩) rows.length c = v at h
 cases h with
 | osl0 => cases hv
 | @osl _ _ _ _ b' c' cs q1 q2 q3 q4 q5 q6 q7 =>
  injection hv with hv _ hc
  injection hv with hv; injection hv with hv
  subst hv
  have hle : rows.length * k <= cs.size := by rw [q5]; exact Nat.mul_le_mul_right _ q3
  refine ⟨q1, cs.toList.take (rows.length * k), ⟨by have hcl : cs.toList.length = cs.size := Array.length_toList; rw [List.length_take]; omega, q6, fun i j row d hi hj => ?_⟩, fun j v hj => ?_⟩
  ·have hjk : j < k := by rw [<- q6 i row hi]; exact (List.getElem?_eq_some_iff.1 hj).1
   have hik := (List.getElem?_eq_some_iff.1 hi).1
   have hlt : i * k + j < rows.length * k := by
    have : (i + 1) * k <= rows.length * k := Nat.mul_le_mul_right _ hik
    rw [Nat.add_mul, Nat.one_mul] at this; omega
   refine ⟨cs.getD (i * k + j) undef, ?_, .inr ⟨b, rfl, q7 i j row d hi hj⟩⟩
   rw [List.getElem?_take_of_lt hlt, Array.getElem?_toList]
   exact zP (by omega)
  ·have hlt : j < rows.length * k := by
    have := (List.getElem?_eq_some_iff.1 hj).1
    rw [List.length_take] at this; omega
   rw [List.getElem?_take_of_lt hlt, Array.getElem?_toList] at hj
   rw [add_lit]
   simp only [World.cell?, q2, Nat.zero_add]
   rw [if_neg (by simp)]; exact hj
theorem Rel.regrow {x : Cx} {g : Gh} {σ : St} {a : Act} {w w' : World} (h : Rel x g σ a w) {id e k n : Nat} {rows rows' : List (List D)} {vals : List Value} {src : Option Nat} {ids : List Nat} (hb : σ.b id = some (.arr e k rows)) (hn : n <= rows.length) (hid : id ∉ ids) (nid : Nat) (hnP : isP nid = false)
  (hsrc : ∀ b, src = some b -> ∃ m ∈ ids, g.up b = some (.root m)) (hS : Src g w k rows' vals src) (bn : Nat) (cs : Array Value) (c : Nat) (hbn : bn = w.heap.size \/ g.β id = some bn) (hw : ∀ b, b < w.heap.size -> g.β id ≠ some b -> w'.heap[b]? = w.heap[b]?) (hbel : Below 0 w w')
  (hlt : bn < w'.heap.size) (hh : w'.heap[bn]? = some (.cells cs e (0, 0))) (h1 : n + rows'.length <= c) (h2 : c <= maxLen) (h3 : cs.size = c * k)
  (hold : ∀ b cs0, g.β id = some b -> w.heap[b]? = some (.cells cs0 e (0, 0)) -> ∀ j, j < n * k -> cs.getD j undef = cs0.getD j undef) (hnew : ∀ j u, vals[j]? = some u -> cs.getD (n * k + j) undef = u) :
  ∃ g', Rel x g' ((σ.sc (pOut (nid :: id :: ids)) (pOut (nid :: id :: ids))).setB nid (.arr e k (rows.take n ++ rows'))) a w' /\ RC g' w' none (.bs nid k (n + rows'.length)) (.slice (some ⟨bn, 0, none⟩) (n + rows'.length) c) := by
 have hR0 : Rep g.S g.up w (some (.root id)) (.osl e k rows) (.slice ((g.β id).map fun b => ⟨b, 0, none⟩) rows.length (g.κ id)) := h.ob id _ hb
 have hup : ∀ b, g.β id = some b -> g.up b = some (.root id) := fun b q => by
  rw [q, Option.map_some] at hR0
  exact (Rep.ovals hR0 rfl).1
 have hsne : ∀ b, src = some b -> g.β id ≠ some b := fun b q r => by
  obtain ⟨m, hm, e'⟩ := hsrc b q
  rw [hup b r] at e'; injection e' with e'; injection e' with e'
  exact hid (e' ▸ hm)
 let π : Pos -> Pos := fun p => match p with
  | .cell b o => if src = some b then .cell bn (n * k + o) else if g.β id = some b then .cell bn o else .cell b o
  | p => p
 have ev : Ev (fun p => ∀ m ∈ nid :: id :: ids, p ≠ .root m) π (pOut (nid :: id :: ids)) (pOut (nid :: id :: ids)) g ⟨fun i => if i = nid then some bn else g.β i, fun i => if i = nid then c else g.κ i, fun b => if b = bn then some (.root nid) else (g.up b).map π, g.S⟩ w w' := by
  refine ⟨⟨fun b hs => ⟨hs, hw b (h.new b hs) (fun q => (h.own b _ (hup b q)).2.2 hs)⟩, fun b p hp ho => ?_, fun b p o hp ho => ⟨fun m _ => by simp, ?_⟩⟩, fun i hi => ?_, fun i hi => ⟨hi, fun m hm e' => ?_, rfl⟩⟩
  ·have hbl := (h.own b p hp).1
   have hne : g.β id ≠ some b := fun q => by
    have := hup b q
    rw [hp] at this; injection this with this
    exact ho id (by simp) this
   refine ⟨?_, hw b hbl hne⟩
   show (if b = bn then _ else _) = _
   rw [if_neg (fun q => ?_), hp]; rfl
   rcases hbn with r | r
   ·omega
   ·exact hne (q ▸ r)
  ·show (if src = some b then _ else if g.β id = some b then _ else _) = _
   rw [if_neg (fun q => ?_), if_neg (fun q => ?_)]
   ·have := hup b q
    rw [hp] at this; injection this with this
    exact ho id (by simp) this
   ·obtain ⟨m, hm, e'⟩ := hsrc b q
    rw [hp] at e'; injection e' with e'
    exact ho m (List.mem_cons_of_mem _ (List.mem_cons_of_mem _ hm)) e'
  ·have := xt hi nid (by simp)
   exact ⟨by show (if i = nid then _ else _) = _; rw [if_neg this], by show (if i = nid then _ else _) = _; rw [if_neg this]⟩
  ·injection e' with e'; exact xt hi m hm e'
 have hR := h.ev ev hbel (fun b hb' hg => hw b (by have := h.bel.size; omega) (fun q => hg ((h.own b _ (hup b q)).2.1 hb'))) (fun b _ hs => .inl hs) (fun b hs => by have := h.new b hs; have := hbel.size; omega) (fun b p hp => by
  simp only at hp
  split at hp
  ·rename_i q
   subst q
   refine ⟨hlt, fun q => ?_, fun q => ?_⟩
   ·rcases hbn with r | r
    ·have := h.bel.size; omega
    ·exact (h.own b _ (hup b r)).2.1 q
   ·rcases hbn with r | r
    ·have := h.new _ q; omega
    ·exact (h.own b _ (hup b r)).2.2 q
  ·obtain ⟨p', hp', -⟩ := Option.map_eq_some_iff.1 hp
   obtain ⟨o1, o2, o3⟩ := h.own b p' hp'
   exact ⟨by have := hbel.size; omega, o2, o3⟩)
 have hln : (rows.take n).length = n := by rw [List.length_take]; omega
 obtain ⟨s1, s2, s3⟩ := hS
 refine ⟨_, hR.setB (id := nid) (o := .arr e k (rows.take n ++ rows')) ?_ (fun q => by rw [hnP] at q; cases q), ?_⟩
 ·show Rep _ _ _ _ _ _
  simp only [if_true, Option.map_some]
  refine .osl cs (by simp) hh (by rw [List.length_append, hln]; exact h1) h2 h3 (fun i row hi => ?_) (fun i j row y hi hj => ?_)
  ·rcases Nat.lt_or_ge i n with q | q
   ·rw [List.getElem?_append_left (by omega), List.getElem?_take_of_lt q] at hi
    exact hR0.osl_w i row hi
   ·rw [List.getElem?_append_right (by omega)] at hi; exact s2 _ row hi
  ·rcases Nat.lt_or_ge i n with q | q
   ·rw [List.getElem?_append_left (by omega), List.getElem?_take_of_lt q] at hi
    generalize hvv : Value.slice ((g.β id).map fun b => (⟨b, 0, none⟩ : Addr)) rows.length (g.κ id) = vv at hR0
    cases hR0 with
    | osl0 => simp at hi
    | @osl _ _ _ _ bo co cs0 q1 q2 q3 q4 q5 q6 q7 =>
     have hβ : g.β id = some bo := by
      injection hvv with hvv _ _
      cases hq : g.β id with
      | none => rw [hq] at hvv; cases hvv
      | some b' => rw [hq] at hvv; injection hvv with hvv; injection hvv with hvv; rw [hvv]
     have hjk : j < k := by rw [<- q6 i row hi]; exact (List.getElem?_eq_some_iff.1 hj).1
     have hlt' : i * k + j < n * k := by
      have : (i + 1) * k <= n * k := Nat.mul_le_mul_right _ q
      rw [Nat.add_mul, Nat.one_mul] at this; omega
     have := Rep.move ev.toMv (q7 i j row y hi hj) (fun z hz => by injection hz with hz; subst hz; intro m _; simp)
     simp only [Option.map_some, π, if_neg (fun r => hsne bo r hβ), if_pos hβ] at this
     rw [hold bo cs0 hβ q2 _ hlt']; exact this
   ·rw [List.getElem?_append_right (by omega), hln] at hi
    obtain ⟨u, hu, hr⟩ := s3 _ j row y hi hj
    have e1 : n * k + ((i - n) * k + j) = i * k + j := by
     rw [<- Nat.add_assoc, <- Nat.add_mul]; congr 2; omega
    have := hnew _ u hu
    rw [e1] at this
    rw [this]
    rcases hr with hr | ⟨b, hb', hr⟩
    ·exact (Rep.move ev.toMv hr (fun z hz => by cases hz)).any _
    ·have := Rep.move ev.toMv hr (fun z hz => by injection hz with hz; subst hz; intro m _; simp)
     simp only [Option.map_some, π, if_pos hb', e1] at this
     exact this
 ·exact ⟨by simp, by simpa using h1, by simpa using h2, fun q => by simp at q⟩
theorem WB {P : Program} (w : World) (t ty e : TypeId) (i : TypeInfo) (ht : P.underlying t = some (.slice e)) (hi : P.info? e = some i) (base : Option Addr) (n cap : Nat) (hn : n <= cap) (a : Option Addr) (c : Nat) :
  (Builtin.append_ #[t, t] ty #[.slice base n cap, .slice a 0 c]).run P w = .ok (.slice base n cap) w := by
 cases a <;> cases base <;> simp [Builtin.append_, run_underlying ht, sizeOf, typeInfo, hi, Builtin.lenOf, Builtin.firstCells, loadCells, loadCellsFrom, storeCells, hn]
theorem WI (xs news : List Value) (z : Array Value) (n k j : Nat) (u : Value) (hx : xs.length = n) (hj : news[j]? = some u) : (xs.toArray ++ news.toArray ++ Builtin.zeroCells z k).getD (n + j) undef = u := by
 have hl := (List.getElem?_eq_some_iff.1 hj).1
 rw [Array.getD_eq_getD_getElem?, <- Array.getElem?_toList]
 simp only [Array.toList_append, List.append_assoc]
 rw [List.getElem?_append_right (by omega), hx, Nat.add_sub_cancel_left, List.getElem?_append_left hl, hj]; rfl
theorem Rel.appendPos {x : Cx} {g : Gh} {σ : St} {a : Act} {w : World} (h : Rel x g σ a w) {t ty e k by_ : Nat} {z : List D} (hk : tk x.P t = .sl e k by_ z) {id n : Nat} {rows rows' : List (List D)} {vals : List Value} {src : Option Nat} {ids : List Nat} (hb : σ.b id = some (.arr e k rows)) (hn : n <= rows.length) (hid : id ∉ ids) (nid : Nat) (hnP : isP nid = false)
  (hsrc : ∀ b, src = some b -> ∃ m ∈ ids, g.up b = some (.root m)) (hS : Src g w k rows' vals src) (ad : Addr) (c : Nat) (hcells : ∀ j v, vals[j]? = some v -> w.cell? (ad.add j) = some v) (hpos : 0 < rows'.length) (hroom : (n + rows'.length) * by_ <= 140737488355328) (hmax : n + rows'.length <= maxLen) {v : Value} (hv : RC g w none (.bs id k n) v) :
  ∃ v' w' g', (Builtin.append_ #[t, t] ty #[v, .slice (some ad) rows'.length c]).run x.P w = .ok v' w' /\ Rel x g' ((σ.sc (pOut (nid :: id :: ids)) (pOut (nid :: id :: ids))).setB nid (.arr e k (rows.take n ++ rows'))) a w' /\ RC g' w' none (.bs nid k (n + rows'.length)) v' := by
 obtain ⟨ht, i, zv, hi, hz, hsz, hby, hzs, hk0, hz1, -, -⟩ := y7 hk
 subst hsz
 obtain ⟨rfl, v1, v2, v3⟩ := hv
 have hR0 : Rep g.S g.up w (some (.root id)) (.osl e i.size rows) (.slice ((g.β id).map fun b => ⟨b, 0, none⟩) rows.length (g.κ id)) := h.ob id _ hb
 have hvl := hS.1
 have hsmall : n + rows'.length <= 9223372036854775807 := by simp only [maxLen] at hmax; omega
 have hpush : ∀ (o : Obj) (b : Nat), b < w.heap.size -> (w.drew.alloc o).heap[b]? = w.heap[b]? := fun o b hb => Below.heap_alloc w.drew _ _ hb
 have hsz1 : ∀ o : Obj, (w.drew.alloc o).heap.size = w.heap.size + 1 := fun o => by rw [yT]; rfl
 cases hβ : g.β id with
 | none =>
  have hn0 : n = 0 := by have := v3 hβ; omega
  subst hn0
  have hκ := v3 hβ
  simp only [Option.map_none, hκ]
  simp only [Nat.zero_add] at *
  have hr := run_append_nil (P := x.P) w t ty e i zv ht hi hz ad rows'.length c vals hvl hcells hpos (by omega) (by rw [hby]; omega)
  have hge := grownCap_ge w rows'.length 0 e
  obtain ⟨g', q1, q2⟩ := h.regrow (n := 0) hb (Nat.zero_le _) hid nid hnP hsrc hS w.heap.size (vals.toArray ++ Builtin.zeroCells zv.cells (grownCap w rows'.length 0 e - rows'.length)) (grownCap w rows'.length 0 e) (.inl rfl)
   (w' := w.drew.alloc (.cells (vals.toArray ++ Builtin.zeroCells zv.cells (grownCap w rows'.length 0 e - rows'.length)) e)) (fun b hb _ => hpush _ b hb) ((Below.refl _ _).drew.trans ((Below.refl _ _).alloc (Nat.zero_le _) _)) (by rw [hsz1]; omega) (heap_alloc_new w.drew _) (by omega) (grownCap_le_maxLen w _ 0 e hmax) (by
    simp only [Array.size_append, List.size_toArray, size_zeroCells, hzs, hvl, <- Nat.add_mul]
    congr 1; omega) (fun b _ q => by rw [hβ] at q; cases q) (fun j u hj => by
    have := WI [] vals zv.cells 0 (grownCap w rows'.length 0 e - rows'.length) j u rfl hj
    rw [Nat.zero_mul]; simpa using this)
  simp only [Nat.zero_add] at q1 q2
  exact ⟨_, _, g', hr, q1, q2⟩
 | some bo =>
  rw [hβ, Option.map_some] at hR0
  simp only [Option.map_some]
  cases hR0 with
  | @osl _ _ _ _ _ _ cs q1 q2 q3 q4 q5 q6 q7 =>
   have hle : n * i.size <= cs.size := by rw [q5]; exact Nat.mul_le_mul_right _ v1
   by_cases hfit : n + rows'.length <= g.κ id
   ·have hfit' : n * i.size + vals.length <= cs.size := by rw [hvl, q5, <- Nat.add_mul]; exact Nat.mul_le_mul_right _ hfit
    have hr := run_append_room (P := x.P) w t ty e i ht hi bo n (g.κ id) cs q2 ad rows'.length c vals hvl hcells (hS.one hk0) hfit hfit'
    generalize hnew : (cs.toList.take (n * i.size) ++ vals ++ cs.toList.drop (n * i.size + vals.length)).toArray = cs' at hr
    have hcl : cs.toList.length = cs.size := Array.length_toList
    have hlay : cs'.toList = lay cs.toList (n * i.size) vals := by subst hnew; rfl
    have hgd : ∀ m, cs'.getD m undef = (lay cs.toList (n * i.size) vals).getD m undef := fun m => by
     rw [List.getD_eq_getElem?_getD, Array.getD_eq_getD_getElem?, <- hlay, Array.getElem?_toList]
    obtain ⟨g', r1, r2⟩ := h.regrow hb hn hid nid hnP hsrc hS bo cs' (g.κ id) (.inr hβ) (w' := w.setRow bo cs') (fun b _ hne => setRow_other _ _ _ _ (fun e => hne (by rw [hβ, e]))) ⟨rfl, rfl, rfl, by simp, fun c hc => by omega⟩ (by
     rw [setRow_size]; exact (h.own bo _ q1).1) (setRow_heap w bo cs _ e _ q2) hfit v2 (by rw [<- Array.length_toList, hlay, lay_len (by omega), hcl]; exact q5) (fun b cs0 hb' hc0 j hj => by
      rw [hβ] at hb'; injection hb' with hb'; subst hb'
      rw [q2] at hc0; injection hc0 with hc0; injection hc0 with hc0; subst hc0
      rw [hgd, List.getD_eq_getElem?_getD, yZ (by omega), if_neg (by omega), Array.getElem?_toList, <- Array.getD_eq_getD_getElem?]) (fun j u hj => by
      have hl := (List.getElem?_eq_some_iff.1 hj).1
      rw [hgd, List.getD_eq_getElem?_getD, yZ (by omega), if_pos (by omega), Nat.add_sub_cancel_left, hj]; rfl)
    exact ⟨_, _, g', hr, r1, r2⟩
   ·have hcl : cs.toList.length = cs.size := Array.length_toList
    have hol : (cs.toList.take (n * i.size)).length = n * i.size := by rw [List.length_take]; omega
    have holds : ∀ j u, (cs.toList.take (n * i.size))[j]? = some u -> w.cell? ((⟨bo, 0, none⟩ : Addr).add j) = some u := fun j u hj => by
     have hlt := (List.getElem?_eq_some_iff.1 hj).1
     rw [hol] at hlt
     rw [List.getElem?_take_of_lt hlt, Array.getElem?_toList] at hj
     rw [add_lit]
     simp only [World.cell?, q2, Nat.zero_add]
     rw [if_neg (by simp)]; exact hj
    have hr := run_append_grow (P := x.P) w t ty e i zv ht hi hz ⟨bo, 0, none⟩ n (g.κ id) _ hol holds ad rows'.length c vals hvl hcells (by omega) (by omega) (growslice_fits (by omega) (by rw [hby]; exact hroom))
    have hge := grownCap_ge w (n + rows'.length) (g.κ id) e
    obtain ⟨g', r1, r2⟩ := h.regrow hb hn hid nid hnP hsrc hS w.heap.size ((cs.toList.take (n * i.size)).toArray ++ vals.toArray ++ Builtin.zeroCells zv.cells (grownCap w (n + rows'.length) (g.κ id) e - (n + rows'.length))) (grownCap w (n + rows'.length) (g.κ id) e) (.inl rfl)
     (w' := w.drew.alloc (.cells ((cs.toList.take (n * i.size)).toArray ++ vals.toArray ++ Builtin.zeroCells zv.cells (grownCap w (n + rows'.length) (g.κ id) e - (n + rows'.length))) e)) (fun b hb _ => hpush _ b hb) ((Below.refl _ _).drew.trans ((Below.refl _ _).alloc (Nat.zero_le _) _)) (by rw [hsz1]; omega) (heap_alloc_new w.drew _) (by omega) (grownCap_le_maxLen w _ _ e hmax) (by
      simp only [Array.size_append, List.size_toArray, size_zeroCells, hzs, hvl, hol, <- Nat.add_mul]
      congr 1; omega) (fun b cs0 hb' hc0 j hj => by
      rw [hβ] at hb'; injection hb' with hb'; subst hb'
      rw [q2] at hc0; injection hc0 with hc0; injection hc0 with hc0; subst hc0
      rw [Array.getD_eq_getD_getElem?, <- Array.getElem?_toList]
      simp only [Array.toList_append, List.append_assoc]
      rw [List.getElem?_append_left (by omega), List.getElem?_take_of_lt hj, Array.getElem?_toList, <- Array.getD_eq_getD_getElem?]) (fun j u hj => WI _ vals zv.cells _ _ j u hol hj)
    exact ⟨_, _, g', hr, r1, r2⟩
theorem Rel.void {x : Cx} {g : Gh} {σ : St} {a : Act} {w : World} (h : Rel x g σ a w) (d e k : Nat) (hdP : isP d = false) :
  ∃ g', g'.S = g.S /\ g'.up = g.up /\ (∀ i, i ≠ d -> g'.β i = g.β i /\ g'.κ i = g.κ i) /\ Rel x g' ((σ.sc (pOut [d]) (pOut [d])).setB d (.arr e k [])) a w /\ RC g' w none (.bs d k 0) (.slice none 0 0) := by
 have hev : Ev (fun _ => True) (fun p => p) (pOut [d]) (pOut [d]) g ⟨fun i => if i = d then none else g.β i, fun i => if i = d then 0 else g.κ i, g.up, g.S⟩ w w := by
  refine ⟨⟨fun b hb => ⟨hb, rfl⟩, fun b p hb _ => ⟨hb, rfl⟩, fun b p o _ _ => ⟨trivial, rfl⟩⟩, fun i hi => ?_, fun i hi => ⟨hi, trivial, rfl⟩⟩
  have := xt hi d (by simp)
  exact ⟨by show (if i = d then _ else _) = _; rw [if_neg this], by show (if i = d then _ else _) = _; rw [if_neg this]⟩
 have hR := h.ev hev (Below.refl _ _) (fun b _ _ => rfl) (fun b _ hs => .inl hs) h.new h.own
 refine ⟨⟨fun i => if i = d then none else g.β i, fun i => if i = d then 0 else g.κ i, g.up, g.S⟩, rfl, rfl, fun i hi => ⟨by show (if i = d then _ else _) = _; rw [if_neg hi], by show (if i = d then _ else _) = _; rw [if_neg hi]⟩, hR.setB (id := d) (o := .arr e k []) ?_ (fun q => by rw [hdP] at q; cases q), ?_⟩
 ·show Rep _ _ _ _ _ _
  simp only [if_true, Option.map_none]
  exact .osl0
 ·exact ⟨by simp, by simp, by simp [maxLen], fun _ => by simp⟩
theorem UV : ∀ (vs : List Value) (cs : Array Value) (off k : Nat), off + k + vs.length <= cs.size ->
  ((vs.zipIdx k).foldl (fun cs (p : Value × Nat) => cs.setIfInBounds (off + p.2) p.1) cs).toList = lay cs.toList (off + k) vs
 | [], cs, off, k, h => by simp [lay]
 | v :: vs, cs, off, k, h => by
  simp only [List.length_cons] at h
  rw [List.zipIdx_cons, List.foldl_cons, UV vs _ off (k + 1) (by simp; omega)]
  unfold lay
  have hl : off + k < cs.toList.length := by rw [Array.length_toList]; omega
  rw [Array.toList_setIfInBounds, List.length_cons, show off + (k + 1) = off + k + 1 by omega, show off + k + (vs.length + 1) = off + k + 1 + vs.length by omega]
  rw [List.drop_set_of_lt (by omega), List.take_add_one, List.getElem?_set_self hl, List.take_set, List.set_eq_of_length_le (by simp; exact Nat.min_le_left _ _)]
  simp
theorem UH {place : Nat -> Option (Nat × Nat)} {cells : Array Value} {i off sz : Nat} {v : Value} {rest : List (Nat × Value)} (hp : place i = some (off, sz)) (h1 : v.cells.size = sz) (h2 : off + sz <= cells.size) :
  Instr.fill place cells ((i, v) :: rest) = Instr.fill place (lay cells.toList off v.cells.toList).toArray rest := by
 have hf : (v.cells.zipIdx.foldl (fun cs (p : Value × Nat) => cs.setIfInBounds (off + p.2) p.1) cells) = (lay cells.toList off v.cells.toList).toArray := by
  apply Array.ext'
  have hl : v.cells.toList.length = v.cells.size := Array.length_toList
  have := UV v.cells.toList cells off 0 (by omega)
  rw [<- Array.foldl_toList, Array.toList_zipIdx]
  exact this
 simp only [Instr.fill, hp]
 rw [if_neg (by simp only [ne_eq, Bool.or_eq_true, decide_eq_true_eq]; omega)]
 rw [<- hf]
theorem one_cells {v : Value} (h : v.oneCell' = true) : v.cells = #[v] := by cases v <;> first | rfl | (simp [Value.oneCell'] at h)
def uG : D -> Option (List D)
 | .ag xs => some xs
 | .un => none
 | .tup _ => none
 | .mb _ _ => none
 | d => some [d]
theorem wB {g : Gh} {w : World} {y : D} {cs : List D} {v : Value} (h : uG y = some cs) (hv : RE g w y v) : RCs g w cs v.cells.toList := by
 cases y with
 | ag xs =>
  injection h with h; subst h
  obtain ⟨us, rfl, hus⟩ := hv
  exact hus
 | un => cases h
 | tup _ => cases h
 | mb _ _ => cases h
 | _ =>
  simp only [uG] at h
  injection h with h; subst h
  simp only [RE] at hv
  rw [one_cells hv.one]
  refine ⟨rfl, fun j z u a b => ?_⟩
  cases j with
  | zero => simp at a b; subst a b; exact hv
  | succ j => simp at a
def vM (σ : St) (fs : List (Nat × Nat × Bool)) : List D -> List (Nat × Operand) -> Option (Prop × List D)
 | cells, [] => some (True, cells)
 | cells, (i, x) :: rest => match fs[i]?, uG (xu (ev σ x)) with
  | some (off, sz, _), some xs => match vM σ fs (lay cells off xs) rest with
   | some (ob, r) => some (oblT (ev σ x) /\ xs.length = sz /\ off + sz <= cells.length /\ ob, r)
   | none => none
  | _, _ => none
theorem RCs.layOn {g : Gh} {w : World} {ys xs : List D} {us vs : List Value} (h : RCs g w ys us) (k : RCs g w xs vs) (off : Nat) (hl : off + xs.length <= ys.length) : RCs g w (lay ys off xs) (lay us off vs) := by
 have h1 := h.1
 have k1 := k.1
 refine ⟨by rw [lay_len hl, lay_len (by omega), h1], fun j y u hy hu => ?_⟩
 rw [yZ hl] at hy
 rw [yZ (by omega)] at hu
 split at hy
 ·rw [if_pos (by omega)] at hu; exact k.2 _ y u hy hu
 ·rw [if_neg (by omega)] at hu; exact h.2 _ y u hy hu
theorem Vy {x : Cx} {g : Gh} {σ : St} {a : Act} {w : World} (hr : Rel x g σ a w) {fs : List (Nat × Nat × Bool)} {place : Nat -> Option (Nat × Nat)} (hpl : ∀ i off sz ag, fs[i]? = some (off, sz, ag) -> place i = some (off, sz)) :
  ∀ (parts : List (Nat × Operand)) (cells : List D) (cs : Array Value) (ob : Prop) (r : List D), vM σ fs cells parts = some (ob, r) -> ob -> RCs g w cells cs.toList ->
   ∃ cs', Instr.fill place cs (parts.map fun p => (p.1, a.eval p.2)) = some cs' /\ RCs g w r cs'.toList
 | [], cells, cs, ob, r, h, ho, hc => by
  injection h with h; injection h with e1 e2
  subst e2
  exact ⟨cs, rfl, hc⟩
 | (i, y) :: rest, cells, cs, ob, r, h, ho, hc => by
  unfold vM at h
  split at h
  ·rename_i off sz ag xs hf hx
   split at h
   ·rename_i ob' r' h'
    injection h with h; injection h with e1 e2
    subst e1 e2
    obtain ⟨o1, o2, o3, o4⟩ := ho
    have hb := wB hx (y8 (vf hr y) o1)
    have hl : cs.size = cells.length := by have := hc.1; rwa [Array.length_toList] at this
    have hvl : (a.eval y).cells.size = xs.length := by have := hb.1; rwa [Array.length_toList] at this
    have hlay := hc.layOn hb off (by omega)
    obtain ⟨cs', r1, r2⟩ := Vy hr hpl rest _ (lay cs.toList off (a.eval y).cells.toList).toArray ob' r' h' o4 (by simpa using hlay)
    refine ⟨cs', ?_, r2⟩
    rw [List.map_cons, UH (v := a.eval y) (hpl i off sz ag hf) (by omega) (by omega)]
    exact r1
   ·cases h
  ·cases h
theorem dv_RCs (g : Gh) (w : World) (us : List Value) (h : ∀ u ∈ us, u.oneCell' = true) : RCs g w (us.map dv) us := by
 refine ⟨by simp, fun j d u hd hu => ?_⟩
 rw [List.getElem?_map, hu] at hd
 injection hd with hd
 subst hd
 exact (dv_rep _ (h u (List.mem_of_getElem? hu))).rc
def wM (P : Program) (σ : St) (t : TypeId) (parts : Array (Nat × Operand)) : Option (Prop × D) := match tk P t with
 | .st _ fs z => match vM σ fs z parts.toList with
  | some (ob, r) => some (ob, .ag r)
  | none => none
 | _ => none
theorem Um {x : Cx} {g : Gh} {σ : St} {a : Act} {w : World} (hr : Rel x g σ a w) {t : TypeId} {parts : Array (Nat × Operand)} {ob : Prop} {y : D} (h : wM x.P σ t parts = some (ob, y)) (ho : ob) :
  ∃ r, (Instr.build t (parts.map fun (i, x) => (i, a.eval x))).run x.P w = .ok r w /\ RE g w y r := by
 unfold wM at h
 split at h
 ·rename_i n fs z hk
  obtain ⟨fields, i, zv, a1, a2, a3, a4, a5, a6, a7, a8, a9⟩ := tk_st hk
  split at h
  ·rename_i ob' r h'
   injection h with h; injection h with e1 e2
   subst e1 e2
   have hz : RCs g w z zv.toList := by rw [a7]; exact dv_RCs _ _ _ a6
   have hm : fields.toList.mapM (fun f => (x.P.info? f.type).map fun i => (f.offset, i.size)) = some (fields.toList.map fun f => (f.offset, szT x.P f.type)) := by
    have key : ∀ l : List Field, (∀ f ∈ l, szT x.P f.type ≠ 0) -> l.mapM (fun f => (x.P.info? f.type).map fun i => (f.offset, i.size)) = some (l.map fun f => (f.offset, szT x.P f.type)) := by
     intro l
     induction l with
     | nil => intro _; rfl
     | cons f l ih =>
      intro hl
      have hf := hl f (by simp)
      have hs : (x.P.info? f.type).map (fun i => (f.offset, i.size)) = some (f.offset, szT x.P f.type) := by
       unfold szT at hf ⊢
       cases hi : x.P.info? f.type with
       | none => rw [hi] at hf; exact absurd rfl hf
       | some i => rfl
      rw [List.mapM_cons, hs, ih (fun y hy => hl y (by simp [hy]))]; rfl
    exact key _ (fun f hf => (a9 f hf).1)
   obtain ⟨cs', r1, r2⟩ := Vy hr (place := fun i => (fields.toList.map fun f => (f.offset, szT x.P f.type)).toArray[i]?) (fun i off sz ag hi => by
    rw [a8, List.getElem?_map] at hi
    rw [List.getElem?_toArray, List.getElem?_map]
    cases hj : fields.toList[i]? with
    | none => rw [hj] at hi; cases hi
    | some f =>
     rw [hj] at hi
     injection hi with hi
     injection hi with h1 h2
     injection h2 with h2 h3
     rw [<- h1, <- h2]; rfl) parts.toList z zv ob' r h' ho hz
   refine ⟨.agg cs', run_build w t _ cs' ?_, cs'.toList, rfl, r2⟩
   unfold Program.built
   simp only [a2, a1, a4, hm, Value.cells]
   rw [<- r1]
   congr 1
   simp
  ·cases h
 ·cases h
def idO : Option Nat -> List Nat -> List Nat
 | none, l => l
 | some a, l => a :: l
def idsC : List D -> List Nat
 | [] => []
 | c :: l => idO (idC c) (idsC l)
def nodB : List Nat -> Bool
 | [] => true
 | a :: l => pOut l a && nodB l
def tgtC : List D -> Nat -> Nat
 | [], _ => 0
 | c :: l, id => if idC c = some id then 0 else tgtC l id + 1
theorem ul {l : List D} {q : Nat} {c : D} {id : Nat} (h : l[q]? = some c) (hc : idC c = some id) : id ∈ idsC l := by
 induction l generalizing q with
 | nil => simp at h
 | cons d l ih =>
  simp only [idsC]
  cases q with
  | zero => simp at h; subst h; rw [hc]; simp [idO]
  | succ q =>
   have := ih (q := q) (by simpa using h)
   cases idC d <;> simp [idO, this]
theorem Uh {l : List D} {q : Nat} {c : D} {id : Nat} (hn : nodB (idsC l) = true) (h : l[q]? = some c) (hc : idC c = some id) : tgtC l id = q := by
 induction l generalizing q with
 | nil => simp at h
 | cons d l ih =>
  simp only [tgtC]
  cases q with
  | zero => simp at h; subst h; rw [if_pos hc]
  | succ q =>
   have h' : l[q]? = some c := by simpa using h
   simp only [idsC] at hn
   by_cases e : idC d = some id
   ·exfalso
    rw [e] at hn
    simp only [idO, nodB, Bool.and_eq_true] at hn
    exact xt hn.1 id (ul h' hc) rfl
   ·rw [if_neg e, ih ?_ h']
    cases hd : idC d with
    | none => rw [hd] at hn; exact hn
    | some a => rw [hd] at hn; simp only [idO, nodB, Bool.and_eq_true] at hn; exact hn.2
def fdL (σ : St) : List D -> Option (Prop × List D)
 | [] => some (True, [])
 | c :: l => match fdC σ c, fdL σ l with
  | some (o1, d), some (o2, ds) => some (o1 /\ o2, d :: ds)
  | _, _ => none
theorem fdL_ok {x : Cx} {g : Gh} {σ : St} {a : Act} {w : World} (hr : Rel x g σ a w) : ∀ (l : List D) (ob : Prop) (ds : List D) (us : List Value), fdL σ l = some (ob, ds) -> ob -> RCs g w l us ->
  ds.length = l.length /\ ∀ (j : Nat) (c d : D) (u : Value), l[j]? = some c -> ds[j]? = some d -> us[j]? = some u -> (idC c = none /\ Rep g.S g.up w none d u) \/ ∃ id, idC c = some id /\ Rep g.S g.up w (some (.root id)) d u
 | [], ob, ds, us, h, ho, hu => by injection h with h; injection h with e1 e2; subst e2; exact ⟨rfl, fun j c d u q => by simp at q⟩
 | c :: l, ob, ds, us, h, ho, hu => by
  unfold fdL at h
  split at h
  ·rename_i o1 d o2 ds' h1 h2
   injection h with h; injection h with e1 e2
   subst e1 e2
   obtain ⟨l1, l2⟩ := hu
   match us, l1 with
   | u :: us, l1 =>
    obtain ⟨i1, i2⟩ := fdL_ok hr l o2 ds' us h2 ho.2 ⟨by simpa using l1, fun j y u a b => l2 (j + 1) y u (by simpa using a) (by simpa using b)⟩
    refine ⟨by simp [i1], fun j c' d' u' q1 q2 q3 => ?_⟩
    cases j with
    | zero => simp at q1 q2 q3; subst q1 q2 q3; exact Xp hr h1 ho.1 (l2 0 _ _ rfl rfl)
    | succ j => exact i2 j c' d' u' (by simpa using q1) (by simpa using q2) (by simpa using q3)
  ·cases h
def uw (σ : St) (k : Nat) : Nat -> List (Nat × Operand) -> Option (Prop × List (List D) × List D)
 | _, [] => some (True, [], [])
 | j, (i, x) :: rest => match uG (xu (ev σ x)) with
  | some xs => match fdL σ xs, uw σ k (j + 1) rest with
   | some (o1, ds), some (ob, rs, raw) => some (oblT (ev σ x) /\ i = j /\ xs.length = k /\ o1 /\ ob, ds :: rs, xs ++ raw)
   | _, _ => none
  | none => none
theorem VB {x : Cx} {g : Gh} {σ : St} {a : Act} {w : World} (hr : Rel x g σ a w) {k : Nat} :
  ∀ (parts : List (Nat × Operand)) (j : Nat) (ob : Prop) (rs : List (List D)) (raw : List D), uw σ k j parts = some (ob, rs, raw) -> ob -> ∀ (cs : Array Value), cs.size = (j + parts.length) * k ->
   ∃ cs' vals, Instr.fill (fun i => some (i * k, k)) cs (parts.map fun p => (p.1, a.eval p.2)) = some cs' /\ cs'.toList = cs.toList.take (j * k) ++ vals /\ rs.length = parts.length /\ vals.length = rs.length * k /\ raw.length = rs.length * k /\
    (∀ (i : Nat) (row : List D), rs[i]? = some row -> row.length = k) /\
    ∀ (i l : Nat) (row : List D) (d : D), rs[i]? = some row -> row[l]? = some d -> ∃ u c, vals[i * k + l]? = some u /\ raw[i * k + l]? = some c /\ ((idC c = none /\ Rep g.S g.up w none d u) \/ ∃ id, idC c = some id /\ Rep g.S g.up w (some (.root id)) d u)
 | [], j, ob, rs, raw, h, ho, cs, hcs => by
  injection h with h; injection h with e1 e2; injection e2 with e2 e3
  subst e2 e3
  exact ⟨cs, [], rfl, by rw [List.append_nil, List.take_of_length_le (by rw [Array.length_toList, hcs]; simp)], rfl, by simp, by simp, by simp, by simp⟩
 | (i, y) :: rest, j, ob, rs, raw, h, ho, cs, hcs => by
  unfold uw at h
  split at h
  ·rename_i xs hx
   split at h
   ·rename_i o1 ds ob' rs' raw' hf h'
    injection h with h; injection h with e1 e2; injection e2 with e2 e3
    subst e1 e2 e3
    obtain ⟨o1, rfl, o3, o4, o5⟩ := ho
    have hb := wB hx (y8 (vf hr y) o1)
    obtain ⟨f1, f2⟩ := fdL_ok hr _ _ _ _ hf o4 hb
    have hvl : (a.eval y).cells.toList.length = k := by rw [hb.1, o3]
    have hvl' : (a.eval y).cells.size = k := by rw [<- Array.length_toList]; exact hvl
    simp only [List.length_cons] at hcs
    have hle : i * k + k <= cs.size := by
     rw [hcs, show i * k + k = (i + 1) * k by rw [Nat.add_mul, Nat.one_mul]]; exact Nat.mul_le_mul_right _ (by omega)
    have hcl : cs.toList.length = cs.size := Array.length_toList
    have hll : (lay cs.toList (i * k) (a.eval y).cells.toList).length = cs.size := by rw [lay_len (by omega), hcl]
    obtain ⟨cs', vals, r1, r2, r3, r4, r5, r6, r7⟩ := VB hr rest (i + 1) ob' rs' raw' h' o5 (lay cs.toList (i * k) (a.eval y).cells.toList).toArray (by rw [List.size_toArray, hll, hcs]; congr 1; omega)
    have hsucc : ∀ q l, (q + 1) * k + l = k + (q * k + l) := fun q l => by rw [Nat.add_mul, Nat.one_mul]; omega
    refine ⟨cs', (a.eval y).cells.toList ++ vals, ?_, ?_, by simp [r3], by rw [List.length_append, hvl, r4, List.length_cons, Nat.add_mul, Nat.one_mul]; omega, by rw [List.length_append, o3, r5, List.length_cons, Nat.add_mul, Nat.one_mul]; omega, fun q row hq => ?_, fun q l row d hq hl => ?_⟩
    ·rw [List.map_cons, UH (v := a.eval y) rfl hvl' hle]
     exact r1
    ·rw [r2]
     unfold lay
     have t1 : (cs.toList.take (i * k)).length = i * k := by rw [List.length_take]; omega
     have t2 : (cs.toList.take (i * k) ++ (a.eval y).cells.toList).length = (i + 1) * k := by rw [List.length_append, t1, hvl, Nat.add_mul, Nat.one_mul]
     rw [<- t2]
     simp only [List.toList_toArray]
     rw [List.take_left, List.append_assoc]
    ·cases q with
     | zero => simp at hq; subst hq; rw [f1, o3]
     | succ q => exact r6 q row (by simpa using hq)
    ·cases q with
     | zero =>
      simp at hq
      subst hq
      have hlt : l < k := by have := (List.getElem?_eq_some_iff.1 hl).1; omega
      have hc : xs[l]? = some (xs[l]'(by omega)) := List.getElem?_eq_getElem (by omega)
      have hu : (a.eval y).cells.toList[l]? = some ((a.eval y).cells.toList[l]'(by omega)) := List.getElem?_eq_getElem (by omega)
      refine ⟨_, _, ?_, ?_, f2 l _ d _ hc hl hu⟩
      ·rw [Nat.zero_mul, Nat.zero_add, List.getElem?_append_left (by omega)]; exact hu
      ·rw [Nat.zero_mul, Nat.zero_add, List.getElem?_append_left (by omega)]; exact hc
     | succ q =>
      obtain ⟨u, c, q1, q2, q3⟩ := r7 q l row d (by simpa using hq) hl
      refine ⟨u, c, ?_, ?_, q3⟩
      ·rw [hsucc, List.getElem?_append_right (by omega), hvl, Nat.add_sub_cancel_left]; exact q1
      ·rw [hsucc, List.getElem?_append_right (by omega), o3, Nat.add_sub_cancel_left]; exact q2
   ·cases h
  ·cases h
theorem lit_run {x : Cx} {g : Gh} {σ : St} {a : Act} {w : World} (hr : Rel x g σ a w) {t e k by_ len : Nat} {z : List D} (hk : tk x.P t = .sl e k by_ z) {o : Oper} {parts : Array (Nat × Operand)} (hop : o.op = .buildSlice t len parts) {ob' : Prop} {rows : List (List D)} {raw : List D} (h' : uw σ k 0 parts.toList = some (ob', rows, raw)) (o1 : ob') (o2 : parts.toList.length = len) (o3 : len * k <= 16777216) :
  ∃ vals : List Value, rows.length <= maxLen /\ vals.length = rows.length * k /\ (∀ (i : Nat) (row : List D), rows[i]? = some row -> row.length = k) /\
   (∀ (i l : Nat) (row : List D) (d : D), rows[i]? = some row -> row[l]? = some d -> ∃ u c, vals[i * k + l]? = some u /\ raw[i * k + l]? = some c /\ ((idC c = none /\ Rep g.S g.up w none d u) \/ ∃ id, idC c = some id /\ Rep g.S g.up w (some (.root id)) d u)) /\
   (execOp a.eval o).run x.P w = .ok (.value (.slice (some ⟨w.heap.size, 0, none⟩) rows.length rows.length)) (w.alloc (.cells vals.toArray e)) := by
 obtain ⟨hu1, i, zv, q1, q2, q3, q4, q5, q6, q7, q8, -⟩ := y7 hk
 obtain ⟨cs', vals, r1, r2, r3, r4, r5, r6, r7⟩ := VB hr parts.toList 0 ob' rows raw h' o1 ((Array.range (len * k)).map (zv.cells[· % zv.cells.size]!)) (by rw [o2]; simp)
 rw [Nat.zero_mul, List.take_zero, List.nil_append] at r2
 refine ⟨vals, by rw [r3, o2]; unfold maxLen; have := Nat.le_mul_of_pos_right len q6; omega, r4, r6, r7, ?_⟩
 have hcs : cs' = vals.toArray := Array.ext' (by rw [r2])
 subst hcs
 have hlen : rows.length = len := by rw [r3, o2]
 have r1' : Instr.fill (fun i => some (i * k, k)) ((Array.range (len * k)).map (zv.cells[· % zv.cells.size]!)) (parts.map fun (i, x) => (i, a.eval x)).toList = some vals.toArray := by rw [<- r1]; simp
 simp only [execOp, hop, Instr.buildSlice, Sem.run_bind, run_underlying hu1, Result.andThen_ok, zf hk]
 rw [if_neg (by omega)]
 by_cases hz : len * k = 0
 ·have hl0 : len = 0 := by
   rcases Nat.mul_eq_zero.1 hz with q | q
   ·exact q
   ·omega
  subst hl0
  have hp0 : parts.toList = [] := List.eq_nil_of_length_eq_zero o2
  have hp0' : parts = #[] := Array.ext' hp0
  subst hp0'
  have hv0 : vals = [] := List.eq_nil_of_length_eq_zero (by rw [r4, hlen]; simp)
  subst hv0
  simp [Instr.fill, newRow, hlen, go_sem]
 ·rw [if_neg hz]
  have hzv : (zeroValue e).run x.P w = .ok zv w := by simp [zeroValue, typeInfo, q1, q2]
  simp only [Sem.run_bind, hzv, Sem.run_pure, Result.andThen_ok, r1']
  simp [newRow, hlen]
theorem Zc {q1 q2 : Nat -> Bool} (h : ∀ i, q2 i = true -> q1 i = true) (y : D) : scC q2 (scC q1 y) = scC q2 y := by
 cases y with
 | bx id o => by_cases hq : q1 id = true <;> simp [scC, hq] <;> (cases hr : q2 id <;> first | rfl | exact absurd (h _ hr) hq)
 | el id k i o => by_cases hq : q1 id = true <;> simp [scC, hq] <;> (cases hr : q2 id <;> first | rfl | exact absurd (h _ hr) hq)
 | bs id k n => by_cases hq : q1 id = true <;> simp [scC, hq] <;> (cases hr : q2 id <;> first | rfl | exact absurd (h _ hr) hq)
 | _ => rfl
theorem Xm {q1 q2 : Nat -> Bool} (h : ∀ i, q2 i = true -> q1 i = true) (l : List D) : (l.map (scC q1)).map (scC q2) = l.map (scC q2) := by
 rw [List.map_map]; exact List.map_congr_left fun y _ => Zc h y
theorem Ud {q1 q2 : Nat -> Bool} (h : ∀ i, q2 i = true -> q1 i = true) (y : D) : scE q2 (scE q1 y) = scE q2 y := by
 have hcc := Zc h
 cases y with
 | ag xs => simp only [scE, Xm h]
 | bx id o => have := hcc (.bx id o); by_cases hq : q1 id = true <;> simp only [scE, scC, hq, if_true, if_false, Bool.false_eq_true] at this ⊢ <;> exact this
 | el id k i o => have := hcc (.el id k i o); by_cases hq : q1 id = true <;> simp only [scE, scC, hq, if_true, if_false, Bool.false_eq_true] at this ⊢ <;> exact this
 | bs id k n => have := hcc (.bs id k n); by_cases hq : q1 id = true <;> simp only [scE, scC, hq, if_true, if_false, Bool.false_eq_true] at this ⊢ <;> exact this
 | _ => rfl
theorem scT_e {q : Nat -> Bool} {y : D} (h1 : ∀ xs, y ≠ .tup xs) (h2 : ∀ c x, y ≠ .mb c x) : scT q y = scE q y := by
 cases y <;> first | rfl | exact absurd rfl (h1 _) | exact absurd rfl (h2 _ _)
theorem scE_ne {q : Nat -> Bool} (y : D) (h1 : ∀ xs, y ≠ .tup xs) (h2 : ∀ c x, y ≠ .mb c x) : (∀ xs, scE q y ≠ .tup xs) /\ ∀ c x, scE q y ≠ .mb c x := by
 cases y <;> first | exact absurd rfl (h1 _) | exact absurd rfl (h2 _ _) | (simp only [scE, scC]; first | (split <;> exact ⟨fun _ => (by simp), fun _ _ => (by simp)⟩) | exact ⟨fun _ => (by simp), fun _ _ => (by simp)⟩)
theorem scT_scT {q1 q2 : Nat -> Bool} (h : ∀ i, q2 i = true -> q1 i = true) (y : D) : scT q2 (scT q1 y) = scT q2 y := by
 by_cases h1 : ∀ xs, y ≠ .tup xs
 ·by_cases h2 : ∀ c x, y ≠ .mb c x
  ·obtain ⟨n1, n2⟩ := scE_ne (q := q1) y h1 h2
   rw [scT_e h1 h2, scT_e n1 n2, Ud h, scT_e h1 h2]
  ·simp only [ne_eq, Classical.not_forall, Classical.not_not] at h2
   obtain ⟨c, x, rfl⟩ := h2
   simp only [scT, Ud h]
 ·simp only [ne_eq, Classical.not_forall, Classical.not_not] at h1
  obtain ⟨xs, rfl⟩ := h1
  simp only [scT, List.map_map]
  congr 1
  exact List.map_congr_left fun y _ => Ud h y
theorem scO_scO {q1 q2 : Nat -> Bool} (h : ∀ i, q2 i = true -> q1 i = true) (o : Ob) : scO q2 (scO q1 o) = scO q2 o := by
 cases o with
 | box row => simp only [scO, Xm h]
 | arr e k rows => rfl
 | hol e k rows i c r => simp only [scO, Zc h]
 | rw e k rows i rr => simp only [scO, Xm h]
theorem Uk (σ : St) (d : Nat) (ids : List Nat) (o1 o : Ob) : (((σ.sc (pOut [d]) (pOut [d])).setB d o1).sc (pOut (d :: ids)) (pOut (d :: ids))).setB d o = (σ.sc (pOut (d :: ids)) (pOut (d :: ids))).setB d o := by
 have hq : ∀ i, pOut (d :: ids) i = true -> pOut [d] i = true := fun i hi => by
  simp only [pOut, Bool.and_eq_true] at hi ⊢; exact ⟨hi.1, trivial⟩
 unfold St.setB St.sc
 congr 1
 ·funext i; exact scT_scT hq _
 ·funext i
  by_cases e : i = d
  ·simp [e]
  ·simp only [if_neg e]
   by_cases hr : pOut (d :: ids) i = true
   ·rw [if_pos hr, if_pos hr, if_pos (hq i hr)]
    cases σ.b i with
    | none => rfl
    | some o' => simp only [Option.map_some]; rw [scO_scO hq]
   ·rw [if_neg hr, if_neg hr]
theorem Rel.forget {x : Cx} {g : Gh} {σ : St} {a : Act} {w : World} (h : Rel x g σ a w) (l : List Nat) : Rel x g (σ.sc (pOut l) (pOut l)) a w := by
 have ev : Ev (fun _ => True) (fun p => p) (pOut l) (pOut l) g g w w := ⟨⟨fun b hb => ⟨hb, rfl⟩, fun b p hb _ => ⟨hb, rfl⟩, fun b p o _ _ => ⟨trivial, rfl⟩⟩, fun i hi => ⟨rfl, rfl⟩, fun i hi => ⟨hi, trivial, rfl⟩⟩
 exact h.ev ev (Below.refl _ _) (fun b _ _ => rfl) (fun b _ hs => .inl hs) h.new h.own
def srcK (σ : St) (k : Nat) : D -> Option (Prop × List (List D) × List Nat)
 | .nil => some (True, [], [])
 | .sl k' rows => some (k' = k, rows, [])
 | .bs id k' n => match σ.b id with
  | some (.arr _ k'' rows) => some (k' = k /\ k'' = k /\ n <= rows.length, rows.take n, [id])
  | _ => none
 | _ => none
theorem srcK_ok {x : Cx} {g : Gh} {σ : St} {a : Act} {w : World} (hr : Rel x g σ a w) {k : Nat} (hk : 0 < k) {y : D} {ob : Prop} {rows : List (List D)} {ids : List Nat} (h : srcK σ k y = some (ob, rows, ids)) (ho : ob) {u : Value} (hu : RE g w y u) :
  ∃ ad c, u = .slice ad rows.length c /\ (0 < rows.length -> ∃ p vals src, ad = some p /\ Src g w k rows vals src /\ (∀ b, src = some b -> ∃ m ∈ ids, g.up b = some (.root m)) /\ ∀ j v, vals[j]? = some v -> w.cell? (p.add j) = some v) := by
 unfold srcK at h
 split at h
 ·injection h with h; injection h with e1 e2; injection e2 with e2 e3
  subst e2 e3
  have hu : Rep g.S g.up w none .nil u := hu
  cases hu
  exact ⟨none, 0, rfl, fun q => by simp at q⟩
 ·injection h with h; injection h with e1 e2; injection e2 with e2 e3
  subst e1 e2 e3
  obtain rfl := ho
  have hu : Rep g.S g.up w none (.sl _ _) u := hu
  obtain ⟨ad, c, rfl, -, -⟩ := hu.sl_shape
  refine ⟨ad, c, rfl, fun hn => ?_⟩
  obtain ⟨p, vals, rfl, -, hS, hc⟩ := hu.vals hk hn
  exact ⟨p, vals, none, rfl, hS, fun b q => (by cases q), hc⟩
 ·rename_i id k' n
  split at h
  ·rename_i e k'' rows' hb
   injection h with h; injection h with e1 e2; injection e2 with e2 e3
   subst e1 e2 e3
   obtain ⟨rfl, rfl, hn⟩ := ho
   obtain ⟨rfl, u1, u2, u3⟩ := hu
   have hl : (rows'.take n).length = n := by rw [List.length_take]; omega
   refine ⟨_, _, by rw [hl], fun hp => ?_⟩
   have hR : Rep g.S g.up w (some (.root id)) (.osl e k'' (rows'.take n)) (.slice ((g.β id).map fun b => ⟨b, 0, none⟩) n (g.κ id)) := Rep.osl_take (hr.ob id _ hb) n hn
   cases hβ : g.β id with
   | none => have := u3 hβ; omega
   | some b =>
    rw [hβ, Option.map_some] at hR
    obtain ⟨h1, vals, h2, h3⟩ := hR.ovals hl.symm
    exact ⟨_, vals, some b, rfl, h2, fun b' q => by injection q with q; subst q; exact ⟨id, by simp, h1⟩, h3⟩
  ·cases h
 ·cases h
theorem Rel.append {x : Cx} {g : Gh} {σ : St} {a : Act} {w : World} (h : Rel x g σ a w) {t ty e k by_ : Nat} {z : List D} (hk : tk x.P t = .sl e k by_ z) {id n : Nat} {rows rows' : List (List D)} {ids : List Nat} (hb : σ.b id = some (.arr e k rows)) (hn : n <= rows.length) (hid : pOut ids id = true) (nid : Nat) (hnP : isP nid = false) {ad : Option Addr} {c : Nat}
  (hs : 0 < rows'.length -> ∃ p vals src, ad = some p /\ Src g w k rows' vals src /\ (∀ b, src = some b -> ∃ m ∈ ids, g.up b = some (.root m)) /\ ∀ j v, vals[j]? = some v -> w.cell? (p.add j) = some v)
  (hroom : (n + rows'.length) * by_ <= 140737488355328) (hmax : n + rows'.length <= maxLen) {v : Value} (hv : RC g w none (.bs id k n) v) :
  ∃ v' w' g', (Builtin.append_ #[t, t] ty #[v, .slice ad rows'.length c]).run x.P w = .ok v' w' /\ Rel x g' ((σ.sc (pOut (nid :: id :: ids)) (pOut (nid :: id :: ids))).setB nid (.arr e k (rows.take n ++ rows'))) a w' /\ RC g' w' none (.bs nid k (n + rows'.length)) v' := by
 rcases Nat.eq_zero_or_pos rows'.length with hm | hm
 ·have hr0 : rows' = [] := List.eq_nil_of_length_eq_zero hm
  subst hr0
  obtain ⟨ht, i, zv, hi, hz, hsz, hby, hzs, hk0, hz1, -, -⟩ := y7 hk
  obtain ⟨rfl, v1, v2, v3⟩ := hv
  have hrun := WB w t ty e i ht hi ((g.β id).map fun b => ⟨b, 0, none⟩) n (g.κ id) v1 ad c
  have hR0 : Rep g.S g.up w (some (.root id)) (.osl e k rows) (.slice ((g.β id).map fun b => ⟨b, 0, none⟩) rows.length (g.κ id)) := h.ob id _ hb
  cases hβ : g.β id with
  | none =>
   have hκ := v3 hβ
   have hn0 : n = 0 := by omega
   subst hn0
   rw [hβ, hκ] at hrun
   obtain ⟨g1, n1, n2, n3, n4, n5⟩ := h.void nid e k hnP
   have h2 := (n4.forget (nid :: id :: ids)).setB (id := nid) (o := .arr e k []) (n4.ob nid _ (by simp [St.setB])) (fun q => by rw [hnP] at q; cases q)
   rw [Uk] at h2
   refine ⟨_, w, g1, by simpa [hκ] using hrun, by simpa using h2, n5⟩
  | some bo =>
   rw [hβ, Option.map_some] at hR0 hrun
   cases hR0 with
   | @osl _ _ _ _ _ _ cs q1 q2 q3 q4 q5 q6 q7 =>
    obtain ⟨g', r1, r2⟩ := h.regrow (rows' := []) (vals := []) (src := none) (ids := ids) hb hn (fun q => xt hid id q rfl) nid hnP (fun b q => (by cases q)) ⟨by simp, by simp, by simp⟩ bo cs (g.κ id) (.inr hβ) (fun _ _ _ => rfl) (Below.refl _ _) (h.own bo _ q1).1 q2 (by simpa using v1) v2 q5 (fun b cs0 hb' hc0 j _ => by
     rw [hβ] at hb'; injection hb' with hb'; subst hb'
     rw [q2] at hc0; injection hc0 with hc0; injection hc0 with hc0; subst hc0; rfl) (fun j u hj => by simp at hj)
    exact ⟨_, w, g', hrun, r1, r2⟩
 ·obtain ⟨p, vals, src, rfl, hS, hsrc, hc⟩ := hs hm
  exact h.appendPos hk hb hn (fun q => xt hid id q rfl) nid hnP hsrc hS p c hc hm hroom hmax hv
def nmA (d id : Nat) : Nat := if isP id = true then d else id
def aop2 (P : Program) (σ : St) (dst : Option Tmp) : Op -> Option (Prop × D × St)
 | .alloc t => match dst, ck P t with
  | some d, some (_, _, z) => some (True, .bx d 0, (σ.sc (pOut [d]) (pOut [d])).setB d (.box z))
  | _, _ => none
 | .box t x => match dst, uG (xu (ev σ x)) with
  | some d, some row => some (oblT (ev σ x), .bx d 0, (σ.sc (pOut [d]) (pOut [d])).setB d (.box (row.map (scC (pOut [d])))))
  | _, _ => none
 | .store t p v => match dst, uG (xu (ev σ v)), ck P t with
  | none, some xs, some (_, n, _) => match xu (ev σ p) with
   | .bx id off => match σ.b id with
    | some (.box row) => some (oblT (ev σ p) /\ oblT (ev σ v) /\ xs.length = n /\ off + xs.length <= row.length, .un, σ.setB id (.box (lay row off xs)))
    | _ => none
   | .el id k i off => match σ.b id, fdL σ xs with
    | some (.arr e k' rows), some (ob, ds) => some (oblT (ev σ p) /\ oblT (ev σ v) /\ k' = k /\ xs.length = n /\ off + xs.length <= k /\ i < rows.length /\ ob /\ nodB (idsC xs) = true /\ pOut (idsC xs) id = true,
      .un, (σ.sc (pOut (idsC xs)) (pOut (idsC xs))).setB id (.arr e k (rows.set i (lay (rows.getD i []) off ds))))
    | some (.hol e k' rows i0 c0 _), some _ => match xs with
     | [d] => some (oblT (ev σ p) /\ oblT (ev σ v) /\ k' = k /\ n = 1 /\ i = i0 /\ off = c0, .un, σ.setB id (.hol e k' rows i0 c0 d))
     | _ => none
    | _, _ => none
   | _ => none
  | _, _, _ => none
 | .build t parts => match wM P σ t parts with
  | some (ob, y) => some (ob, y, σ)
  | none => none
 | .makeSlice t l c => match dst, tk P t, intE (xu (ev σ l)), intE (xu (ev σ c)) with
  | some d, .sl e k by_ z, some (_, n), some (_, m) => some (oblT (ev σ l) /\ oblT (ev σ c) /\ m = n /\ 0 <= n /\ by_ * n <= 281474976710656 /\ n <= 281474976710656,
    .bs d k n.toNat, (σ.sc (pOut [d]) (pOut [d])).setB d (.arr e k (List.replicate n.toNat z)))
  | _, _, _, _ => none
 | .buildSlice t len parts => match dst, tk P t with
  | some d, .sl e k _ _ => match uw σ k 0 parts.toList with
   | some (ob, rows, raw) => some (ob /\ parts.toList.length = len /\ len * k <= 16777216 /\ nodB (idsC raw) = true, .bs d k rows.length, (σ.sc (pOut (d :: idsC raw)) (pOut (d :: idsC raw))).setB d (.arr e k rows))
   | none => none
  | _, _ => none
 | .call ⟨.builtin .append, args, ts⟩ => match dst, args.toList, ts.toList with
  | some d, [s, x], [t, t'] => match tk P t with
   | .sl e k by_ _ => match srcK σ k (xu (ev σ x)) with
    | some (ob, rows', ids) => match xu (ev σ s) with
     | .bs id k' n => match σ.b id with
      | some (.arr e' k'' rows) => some (t' = t /\ oblT (ev σ s) /\ oblT (ev σ x) /\ e' = e /\ k' = k /\ k'' = k /\ n <= rows.length /\ ob /\ pOut ids id = true /\ (n + rows'.length) * by_ <= 140737488355328 /\ n + rows'.length <= 140737488355328,
        .bs (nmA d id) k (n + rows'.length), (σ.sc (pOut (nmA d id :: id :: ids)) (pOut (nmA d id :: id :: ids))).setB (nmA d id) (.arr e k (rows.take n ++ rows')))
      | _ => none
     | .nil => some (t' = t /\ oblT (ev σ s) /\ oblT (ev σ x) /\ ob /\ pOut ids d = true /\ rows'.length * by_ <= 140737488355328 /\ rows'.length <= 140737488355328,
        .bs d k rows'.length, (σ.sc (pOut (d :: ids)) (pOut (d :: ids))).setB d (.arr e k rows'))
     | _ => none
    | none => none
   | _ => none
  | _, _, _ => none
 | _ => none
theorem RC.scOut {g : Gh} {w : World} {l : List Nat} {p : Option Pos} {y : D} {v : Value} (h : RC g w p y v) : RC g w p (scC (pOut l) y) v := by
 have one := h.one
 cases y <;> first | exact h | (simp only [scC]; split; exact h; exact one)
theorem aop2_ok {x : Cx} {σ σ' : St} {o : Oper} {ob : Prop} {y : D} (h : aop2 x.P σ o.dst o.op = some (ob, y, σ')) (ho : ob) (hdP : ∀ d, o.dst = some d -> isP d = false) {g : Gh} {a : Act} {w : World} (hr : Rel x g σ a w) :
  ∃ w' g', Rel x g' σ' a w' /\ ((∃ r, (execOp a.eval o).run x.P w = .ok (.value r) w' /\ RT g' w' y r) \/ ((execOp a.eval o).run x.P w = .ok .skip w' /\ y = .un)) := by
 have hev := vf hr
 have hb : ∀ z, oblT (ev σ z) -> RE g w (xu (ev σ z)) (a.eval z) := fun z hz => y8 (hev z) hz
 unfold aop2 at h
 split at h
 ·rename_i t hop
  split at h
  ·rename_i d ag n z hd hk
   injection h with h; injection h with e1 e2; injection e2 with e2 e3
   subst e2 e3
   obtain ⟨-, ⟨i, zv, h1, h2, h3, h4, h5, h6⟩, -⟩ := YV hk
   subst h6
   obtain ⟨g', q1, q2⟩ := hr.newBox d (zv.cells.toList.map dv) zv.cells.toList t (dv_RCs _ _ _ h5) (fun y hy => by
    obtain ⟨u, -, rfl⟩ := List.mem_map.1 hy
    unfold dv
    split <;> rfl) (hdP d hd)
   refine ⟨_, g', q1, .inl ⟨.pointer (some ⟨w.heap.size, 0, none⟩), ?_, (show RC g' _ none (.bx d 0) _ from ⟨_, q2, rfl⟩).re.rt⟩⟩
   simp [execOp, hop, Instr.alloc, zeroValue, typeInfo, h1, h3, newVar, newRow]
  ·cases h
 ·rename_i t z hop
  split at h
  ·rename_i d row hd hc
   injection h with h; injection h with e1 e2; injection e2 with e2 e3
   subst e1 e2 e3
   have hrow := wB hc (hb z ho)
   obtain ⟨g', q1, q2⟩ := hr.newBox d (row.map (scC (pOut [d]))) (a.eval z).cells.toList t ⟨by simp [hrow.1], fun j y u hy hu => by
    rw [List.getElem?_map] at hy
    obtain ⟨y', h1, rfl⟩ := Option.map_eq_some_iff.1 hy
    exact (hrow.2 j y' u h1 hu).scOut⟩ (fun y hy => by
    obtain ⟨u, -, rfl⟩ := List.mem_map.1 hy
    exact Zc (fun _ h => h) u) (hdP d hd)
   refine ⟨_, g', q1, .inl ⟨.pointer (some ⟨w.heap.size, 0, none⟩), ?_, (show RC g' _ none (.bx d 0) _ from ⟨_, q2, rfl⟩).re.rt⟩⟩
   simp [execOp, hop, Instr.box, newVar, newRow]
  ·cases h
 ·rename_i t p v hop
  split at h
  ·rename_i xs ag n z hd hv hk
   have run : ∀ {b i : Nat} {w' : World}, a.eval p = .pointer (some ⟨b, i, none⟩) -> (a.eval v).cells.toList.length = n -> (storeCells ⟨b, i, none⟩ (a.eval v).cells.toList).run x.P w = .ok () w' -> (execOp a.eval o).run x.P w = .ok .skip w' := by
    intro b i w' h1 h2 h3
    simp only [execOp, hop, Instr.storeAt, h1, Instr.sureAddr, Sem.run_bind, Sem.run_pure, Result.andThen_ok, storeVar, ck_size hk]
    rw [if_neg (by simpa using h2), h3]; rfl
   split at h
   ·rename_i id off hp
    split at h
    ·rename_i row hrow
     injection h with h; injection h with e1 e2; injection e2 with e2 e3
     subst e1 e2 e3
     obtain ⟨o1, o2, o3, o4⟩ := ho
     have hp' := hb p o1
     rw [hp] at hp'
     obtain ⟨b, hβ, hp'⟩ := hp'
     have hxs := wB hv (hb v o2)
     obtain ⟨w', s1, s2⟩ := hr.store id off row xs hrow _ hxs o4 hβ
     exact ⟨w', g, s2, .inr ⟨run hp' (by rw [hxs.1, o3]) s1, rfl⟩⟩
    ·cases h
   ·rename_i id k i off hp
    split at h
    ·rename_i e k' rows ob' ds hrow hf
     injection h with h; injection h with e1 e2; injection e2 with e2 e3
     subst e1 e2 e3
     obtain ⟨o1, o2, rfl, o3, o4, o5, o6, o7, o8⟩ := ho
     have hp' := hb p o1
     rw [hp] at hp'
     obtain ⟨b, hβ, hp'⟩ := hp'
     have hxs := wB hv (hb v o2)
     obtain ⟨f1, f2⟩ := fdL_ok hr _ _ _ _ hf o6 hxs
     obtain ⟨w', g', s1, s2⟩ := hr.storeArr id e k' i off rows ds hrow (a.eval v).cells.toList (idsC xs) (tgtC xs) o5 (by omega) (fun q => xt o8 id q rfl) (by rw [hxs.1, f1]) (fun j y u hy hu => by
      have hj : j < xs.length := by rw [<- f1]; exact (List.getElem?_eq_some_iff.1 hy).1
      rcases f2 j xs[j] y u (List.getElem?_eq_getElem hj) hy hu with ⟨-, q⟩ | ⟨m, q1, q2⟩
      ·exact .inl q
      ·exact .inr ⟨m, ul (List.getElem?_eq_getElem hj) q1, Uh o7 (List.getElem?_eq_getElem hj) q1, q2⟩) hβ
     exact ⟨w', g', s2, .inr ⟨run hp' (by rw [hxs.1, o3]) s1, rfl⟩⟩
    ·rename_i e k' rows i0 c0 r _ hrow hf
     split at h
     ·rename_i dd
      injection h with h; injection h with e1 e2; injection e2 with e2 e3
      subst e1 e2 e3
      obtain ⟨o1, o2, rfl, rfl, rfl, rfl⟩ := ho
      have hp' := hb p o1
      rw [hp] at hp'
      obtain ⟨b, hβ, hp'⟩ := hp'
      have hxs := wB hv (hb v o2)
      obtain ⟨w', s1, s2⟩ := hr.storeHol id e k' i off rows r dd hrow _ hxs hβ
      exact ⟨w', g, s2, .inr ⟨run hp' (by rw [hxs.1]; rfl) s1, rfl⟩⟩
     ·cases h
    ·cases h
   ·cases h
  ·cases h
 ·rename_i t parts hop
  split at h
  ·rename_i ob' y' h'
   injection h with h; injection h with e1 e2; injection e2 with e2 e3
   subst e1 e2 e3
   obtain ⟨r, r1, r2⟩ := Um hr h' ho
   refine ⟨w, g, hr, .inl ⟨r, ?_, r2.rt⟩⟩
   simp only [execOp, hop, Sem.run_bind, r1]; rfl
  ·cases h
 ·rename_i t l c hop
  split at h
  ·rename_i d e k by_ z kl n kc m hd hk hl hc
   injection h with h; injection h with e1 e2; injection e2 with e2 e3
   subst e1 e2 e3
   obtain ⟨o1, o2, rfl, o4, o5, o6⟩ := ho
   obtain ⟨hu1, i, zv, q1, q2, q3, q4, q5, q6, q7, q8, -⟩ := y7 hk
   have el := vp hl (hb l o1)
   have ec := vp hc (hb c o2)
   have hrun := run_make (P := x.P) w t e i zv hu1 q1 q2 kl kc m m o4 (Int.le_refl _) (by rw [q4]; exact o5) (by omega)
   obtain ⟨g', r1, r2⟩ := hr.newArr (.inl rfl) d e k (List.replicate m.toNat z) (madeCells zv.cells (m.toNat * i.size)) m.toNat [] (fun _ => 0) (by simp) (by unfold maxLen; omega) (by simp [madeCells, q3]) (hdP d hd) (fun i row hi => by
    rw [List.getElem?_replicate] at hi
    split at hi
    ·injection hi with hi; subst hi; rw [q8]; simpa using q5
    ·cases hi) (fun i' j row y' hi hj => by
    rw [List.getElem?_replicate] at hi
    split at hi
    ·rename_i hlt
     injection hi with hi; subst hi
     left
     rw [q8, List.getElem?_map] at hj
     obtain ⟨u, hu, rfl⟩ := Option.map_eq_some_iff.1 hj
     have hjk : j < k := by rw [<- q5, <- Array.length_toList]; exact (List.getElem?_eq_some_iff.1 hu).1
     have hlt' : i' * k + j < m.toNat * k := by
      have : (i' + 1) * k <= m.toNat * k := Nat.mul_le_mul_right _ hlt
      rw [Nat.add_mul, Nat.one_mul] at this; omega
     have : (madeCells zv.cells (m.toNat * i.size)).getD (i' * k + j) undef = u := by
      rw [q3, Array.getD_eq_getD_getElem?]
      simp only [madeCells, Array.getElem?_map]
      rw [Array.getElem?_range, if_pos hlt']
      simp only [Option.map_some, Option.getD_some, q5]
      rw [Nat.add_comm, Nat.add_mul_mod_self_right, Nat.mod_eq_of_lt hjk, getElem!_pos zv.cells j (by omega)]
      rw [Array.getElem?_toList, Array.getElem?_eq_getElem (by omega)] at hu
      injection hu
     rw [this]
     exact dv_rep _ (q7 u (List.mem_of_getElem? hu))
    ·cases hi)
   rw [List.length_replicate] at r2
   refine ⟨_, g', r1, .inl ⟨_, ?_, r2.re.rt⟩⟩
   simp only [execOp, hop, el, ec, Sem.run_bind, hrun, Result.andThen_ok, Sem.run_pure]
  ·cases h
 ·rename_i t len parts hop
  split at h
  ·rename_i d e k by_ z hd hk
   split at h
   ·rename_i ob' rows raw h'
    injection h with h; injection h with e1 e2; injection e2 with e2 e3
    subst e1 e2 e3
    obtain ⟨o1, o2, o3, o4⟩ := ho
    obtain ⟨vals, r1, r2, r3, r4, r5⟩ := lit_run hr hk hop h' o1 o2 o3
    obtain ⟨g', l1, l2⟩ := hr.newArr (.inl rfl) d e k rows vals.toArray rows.length (idsC raw) (tgtC raw) (Nat.le_refl _) r1 (by simpa using r2) (hdP d hd) r3 (fun i j row y' hi hj => by
     obtain ⟨u, c, q1, q2, q3⟩ := r4 i j row y' hi hj
     rw [Xk (u := u) (by simpa using q1)]
     rcases q3 with ⟨-, q3⟩ | ⟨m, q3, q4⟩
     ·exact .inl q3
     ·exact .inr ⟨m, ul q2 q3, Uh o4 q2 q3, q4⟩)
    exact ⟨_, g', l1, .inl ⟨_, r5, l2.re.rt⟩⟩
   ·cases h
  ·cases h
 ·rename_i args ts hop
  split at h
  ·rename_i d s z t t' hd ha ht
   have ea : args = #[s, z] := Array.ext' ha
   have et : ts = #[t, t'] := Array.ext' ht
   subst ea et
   split at h
   ·rename_i e k by_ zz hk
    split at h
    ·rename_i ob' rows' ids hx
     have hk0 : 0 < k := by obtain ⟨_, i, zv, _, _, _, _, _, hk0, _⟩ := y7 hk; exact hk0
     split at h
     ·rename_i id k' n hs
      split at h
      ·rename_i e' k'' rows hrow
       injection h with h; injection h with e1 e2; injection e2 with e2 e3
       subst e1 e2 e3
       obtain ⟨rfl, o1, o2, rfl, rfl, rfl, o3, o4, o5, o6, o7⟩ := ho
       have hs' := hb s o1
       rw [hs] at hs'
       obtain ⟨ad, c, hu, hsr⟩ := srcK_ok hr hk0 hx o4 (hb z o2)
       obtain ⟨v', w', g', r1, r2, r3⟩ := hr.append (ty := o.type) hk hrow o3 o5 (nmA d id) (by unfold nmA; split; exact hdP d hd; simp_all) (c := c) hsr o6 (by unfold maxLen; omega) hs'
       refine ⟨w', g', r2, .inl ⟨v', ?_, r3.re.rt⟩⟩
       simp only [execOp, hop, resolve, invoke, builtin, Sem.run_bind, Sem.run_pure, Result.andThen_ok, List.map_toArray, List.map_cons, List.map_nil]
       rw [hu, r1]; rfl
      ·cases h
     ·rename_i hs
      injection h with h; injection h with e1 e2; injection e2 with e2 e3
      subst e1 e2 e3
      obtain ⟨rfl, o1, o2, o4, o5, o6, o7⟩ := ho
      have hs' := hb s o1
      rw [hs] at hs'
      have hs' : a.eval s = .slice none 0 0 := by
       have : Rep g.S g.up w none .nil (a.eval s) := hs'
       generalize a.eval s = v at this
       cases this; rfl
      obtain ⟨ad, c, hu, hsr⟩ := srcK_ok hr hk0 hx o4 (hb z o2)
      obtain ⟨g1, n1, n2, n3, n4, n5⟩ := hr.void d e k (hdP d hd)
      obtain ⟨v', w', g', r1, r2, r3⟩ := n4.append (ty := o.type) (n := 0) (rows := []) (ids := ids) (c := c) (ad := ad) (rows' := rows') hk (by simp [St.setB]) (Nat.zero_le _) o5 d (hdP d hd) (fun hp => by
       obtain ⟨p, vals, src, p1, p2, p3, p4⟩ := hsr hp
       exact ⟨p, vals, src, p1, by unfold Src; rw [n1, n2]; exact p2, by rw [n2]; exact p3, p4⟩) (by simpa using o6) (by unfold maxLen; omega) n5
      rw [show pOut (d :: d :: ids) = pOut (d :: ids) by funext i; simp [pOut], Uk, List.take_nil, List.nil_append] at r2
      rw [Nat.zero_add] at r3
      refine ⟨w', g', r2, .inl ⟨v', ?_, r3.re.rt⟩⟩
      simp only [execOp, hop, resolve, invoke, builtin, Sem.run_bind, Sem.run_pure, Result.andThen_ok, List.map_toArray, List.map_cons, List.map_nil, hs']
      rw [hu, r1]; rfl
     ·cases h
    ·cases h
   ·cases h
  ·cases h
 ·cases h
def u8R (b : UInt8) : List D := [.s (.int .u8 b.toNat)]
def strR (s : ByteArray) : List (List D) := s.data.toList.map u8R
theorem QF (s : ByteArray) : (strR s).length = s.size := by unfold strR; rw [List.length_map, Array.length_toList]; rfl
def rowB : List D -> UInt8
 | [.s (.int .u8 n)] => UInt8.ofNat n.toNat
 | _ => 0
theorem rowB_u8 (b : UInt8) : rowB (u8R b) = b := by simp [rowB, u8R]
def rowsB (rows : List (List D)) : ByteArray := ⟨(rows.map rowB).toArray⟩
theorem rowsB_map (l : List UInt8) : rowsB (l.map u8R) = ⟨l.toArray⟩ := by
 unfold rowsB
 rw [List.map_map]
 congr 2
 conv => rhs; rw [<- List.map_id l]
 exact List.map_congr_left fun b _ => rowB_u8 b
theorem strSrc {g : Gh} {w : World} (s : ByteArray) : Src g w 1 (strR s) (Lib.strCells s) none := by
 refine ⟨by rw [Lib.strCells_length, QF]; omega, fun i row h => ?_, fun i j row d h1 h2 => ?_⟩
 ·unfold strR at h
  rw [List.getElem?_map] at h
  obtain ⟨b, -, rfl⟩ := Option.map_eq_some_iff.1 h
  rfl
 ·unfold strR at h1
  rw [List.getElem?_map] at h1
  obtain ⟨b, hb, rfl⟩ := Option.map_eq_some_iff.1 h1
  match j, h2 with
  | 0, h2 =>
   have : D.s (.int .u8 b.toNat) = d := by simpa [u8R] using h2
   subst this
   refine ⟨.int .u8 b.toNat, ?_, .inl (.i _ _)⟩
   unfold Lib.strCells
   rw [Nat.mul_one, Nat.add_zero, List.getElem?_map, hb]; rfl
  | j + 1, h2 => simp [u8R] at h2
theorem QE (s : ByteArray) : s.data.map (fun b => Value.int .u8 b.toNat) = (Lib.strCells s).toArray := by
 apply Array.ext'
 simp [Lib.strCells]
theorem Ya {P : Program} (w : World) (t u ty e : TypeId) (i : TypeInfo) (ht : P.underlying t = some (.slice e)) (hu : P.underlying u = some .string) (hi : P.info? e = some i) (s : ByteArray) (hs : s.size = 0) :
  (Builtin.append_ #[t, u] ty #[.slice none 0 0, .string s]).run P w = .ok (.slice none 0 0) w := by
 have hd : s.data = #[] := by
  have : s.data.size = 0 := hs
  exact Array.eq_empty_of_size_eq_zero this
 simp [Builtin.append_, run_underlying ht, run_underlying hu, sizeOf, typeInfo, hi, Builtin.lenOf, Builtin.firstCells, hs, hd]
theorem Rel.appendStr {x : Cx} {g : Gh} {σ : St} {a : Act} {w : World} (h : Rel x g σ a w) {t u ty e by_ : Nat} {z : List D} (hk : tk x.P t = .sl e 1 by_ z) (hu : x.P.underlying u = some .string) {id n : Nat} {rows : List (List D)} (s : ByteArray) (hb : σ.b id = some (.arr e 1 rows)) (hn : n <= rows.length) (nid : Nat) (hnP : isP nid = false)
  (hroom : (n + s.size) * by_ <= 140737488355328) (hmax : n + s.size <= maxLen) {v : Value} (hv : RC g w none (.bs id 1 n) v) :
  ∃ v' w' g', (Builtin.append_ #[t, u] ty #[v, .string s]).run x.P w = .ok v' w' /\ Rel x g' ((σ.sc (pOut [nid, id]) (pOut [nid, id])).setB nid (.arr e 1 (rows.take n ++ strR s))) a w' /\ RC g' w' none (.bs nid 1 (n + s.size)) v' := by
 obtain ⟨ht, i, zv, hi, hz, hsz, hby, hzs, hk0, hz1, -, -⟩ := y7 hk
 obtain ⟨rfl, v1, v2, v3⟩ := hv
 have hR0 : Rep g.S g.up w (some (.root id)) (.osl e 1 rows) (.slice ((g.β id).map fun b => ⟨b, 0, none⟩) rows.length (g.κ id)) := h.ob id _ hb
 have hS : Src g w 1 (strR s) (Lib.strCells s) none := strSrc s
 have hsl := QF s
 have hvl := Lib.strCells_length s
 have hsmall : n + s.size <= 9223372036854775807 := by simp only [maxLen] at hmax; omega
 have hpush : ∀ (o : Obj) (b : Nat), b < w.heap.size -> (w.drew.alloc o).heap[b]? = w.heap[b]? := fun o b hb => Below.heap_alloc w.drew _ _ hb
 have hsz1 : ∀ o : Obj, (w.drew.alloc o).heap.size = w.heap.size + 1 := fun o => by rw [yT]; rfl
 have hid : id ∉ ([] : List Nat) := by simp
 cases hβ : g.β id with
 | none =>
  have hn0 : n = 0 := by have := v3 hβ; omega
  subst hn0
  have hκ := v3 hβ
  simp only [Option.map_none, hκ]
  simp only [Nat.zero_add] at *
  by_cases hp : s.size = 0
  ·have hrun := Ya (P := x.P) w t u ty e i ht hu hi s hp
   obtain ⟨g1, n1, n2, n3, n4, n5⟩ := h.void nid e 1 hnP
   have h2 := (n4.forget [nid, id]).setB (id := nid) (o := .arr e 1 []) (n4.ob nid _ (by simp [St.setB])) (fun q => by rw [hnP] at q; cases q)
   rw [Uk] at h2
   have h0 : strR s = [] := List.eq_nil_of_length_eq_zero (by rw [hsl, hp])
   rw [h0, hp]
   exact ⟨_, w, g1, hrun, by simpa using h2, n5⟩
  ·have hr := run_append_nil_string (P := x.P) w t u ty e i zv ht hu hi hz s (by omega) (by omega) (by rw [hby]; omega)
   rw [QE] at hr
   have hge := grownCap_ge w s.size 0 e
   obtain ⟨g', q1, q2⟩ := h.regrow (n := 0) hb (Nat.zero_le _) hid nid hnP (fun b q => (by cases q)) hS w.heap.size ((Lib.strCells s).toArray ++ Builtin.zeroCells zv.cells (grownCap w s.size 0 e - s.size)) (grownCap w s.size 0 e) (.inl rfl)
    (w' := w.drew.alloc (.cells ((Lib.strCells s).toArray ++ Builtin.zeroCells zv.cells (grownCap w s.size 0 e - s.size)) e)) (fun b hb _ => hpush _ b hb) ((Below.refl _ _).drew.trans ((Below.refl _ _).alloc (Nat.zero_le _) _)) (by rw [hsz1]; omega) (heap_alloc_new w.drew _) (by rw [hsl]; omega) (grownCap_le_maxLen w _ 0 e hmax) (by
     simp only [Array.size_append, List.size_toArray, size_zeroCells, hzs, hvl, hsz, Nat.mul_one]; omega) (fun b _ q => by rw [hβ] at q; cases q) (fun j u hj => by
     have := WI [] (Lib.strCells s) zv.cells 0 (grownCap w s.size 0 e - s.size) j u rfl hj
     rw [Nat.zero_mul]; simpa using this)
   simp only [Nat.zero_add, hsl] at q1 q2
   exact ⟨_, _, g', hr, q1, q2⟩
 | some bo =>
  rw [hβ, Option.map_some] at hR0
  simp only [Option.map_some]
  cases hR0 with
  | @osl _ _ _ _ _ _ cs q1 q2 q3 q4 q5 q6 q7 =>
   rw [Nat.mul_one] at q5
   have hle : n <= cs.size := by rw [q5]; exact v1
   by_cases hfit : n + s.size <= g.κ id
   ·have hr := Lib.run_append_room_string (P := x.P) w t u ty e i ht hu hi hsz bo n (g.κ id) cs q2 s hfit (by omega)
    generalize hnew : (cs.toList.take n ++ Lib.strCells s ++ cs.toList.drop (n + s.size)).toArray = cs' at hr
    have hcl : cs.toList.length = cs.size := Array.length_toList
    have hlay : cs'.toList = lay cs.toList (n * 1) (Lib.strCells s) := by subst hnew; unfold lay; rw [Nat.mul_one, hvl]
    have hgd : ∀ m, cs'.getD m undef = (lay cs.toList (n * 1) (Lib.strCells s)).getD m undef := fun m => by
     rw [List.getD_eq_getElem?_getD, Array.getD_eq_getD_getElem?, <- hlay, Array.getElem?_toList]
    obtain ⟨g', r1, r2⟩ := h.regrow hb hn hid nid hnP (fun b q => (by cases q)) hS bo cs' (g.κ id) (.inr hβ) (w' := w.setRow bo cs') (fun b _ hne => setRow_other _ _ _ _ (fun e => hne (by rw [hβ, e]))) ⟨rfl, rfl, rfl, by simp, fun c hc => by omega⟩ (by
     rw [setRow_size]; exact (h.own bo _ q1).1) (setRow_heap w bo cs _ e _ q2) (by rw [hsl]; exact hfit) v2 (by rw [<- Array.length_toList, hlay, lay_len (by omega), hcl, Nat.mul_one]; exact q5) (fun b cs0 hb' hc0 j hj => by
      rw [hβ] at hb'; injection hb' with hb'; subst hb'
      rw [q2] at hc0; injection hc0 with hc0; injection hc0 with hc0; subst hc0
      rw [hgd, List.getD_eq_getElem?_getD, yZ (by omega), if_neg (by omega), Array.getElem?_toList, <- Array.getD_eq_getD_getElem?]) (fun j u hj => by
      have hl := (List.getElem?_eq_some_iff.1 hj).1
      rw [hgd, List.getD_eq_getElem?_getD, yZ (by omega), if_pos (by omega), Nat.add_sub_cancel_left, hj]; rfl)
    rw [hsl] at r2
    exact ⟨_, _, g', hr, r1, r2⟩
   ·have hcl : cs.toList.length = cs.size := Array.length_toList
    have hol : (cs.toList.take n).length = n * i.size := by rw [List.length_take, hsz]; omega
    have hol1 : (cs.toList.take n).length = n * 1 := by rw [List.length_take]; omega
    have holds : ∀ j u, (cs.toList.take n)[j]? = some u -> w.cell? ((⟨bo, 0, none⟩ : Addr).add j) = some u := fun j u hj => by
     have hlt := (List.getElem?_eq_some_iff.1 hj).1
     rw [hol1] at hlt
     rw [List.getElem?_take_of_lt (by omega), Array.getElem?_toList] at hj
     rw [add_lit]
     simp only [World.cell?, q2, Nat.zero_add]
     rw [if_neg (by simp)]; exact hj
    have hr := Lib.run_append_grow_string (P := x.P) w t u ty e i zv ht hu hi hz ⟨bo, 0, none⟩ n (g.κ id) _ hol holds s (by omega) (by omega) (growslice_fits (by omega) (by rw [hby]; exact hroom))
    have hge := grownCap_ge w (n + s.size) (g.κ id) e
    obtain ⟨g', r1, r2⟩ := h.regrow hb hn hid nid hnP (fun b q => (by cases q)) hS w.heap.size ((cs.toList.take n).toArray ++ (Lib.strCells s).toArray ++ Builtin.zeroCells zv.cells (grownCap w (n + s.size) (g.κ id) e - (n + s.size))) (grownCap w (n + s.size) (g.κ id) e) (.inl rfl)
     (w' := w.drew.alloc (.cells ((cs.toList.take n).toArray ++ (Lib.strCells s).toArray ++ Builtin.zeroCells zv.cells (grownCap w (n + s.size) (g.κ id) e - (n + s.size))) e)) (fun b hb _ => hpush _ b hb) ((Below.refl _ _).drew.trans ((Below.refl _ _).alloc (Nat.zero_le _) _)) (by rw [hsz1]; omega) (heap_alloc_new w.drew _) (by rw [hsl]; omega) (grownCap_le_maxLen w _ _ e hmax) (by
      simp only [Array.size_append, List.size_toArray, size_zeroCells, hzs, hvl, hol1, hsz, Nat.mul_one]; omega) (fun b cs0 hb' hc0 j hj => by
      rw [hβ] at hb'; injection hb' with hb'; subst hb'
      rw [q2] at hc0; injection hc0 with hc0; injection hc0 with hc0; subst hc0
      rw [Array.getD_eq_getD_getElem?, <- Array.getElem?_toList]
      simp only [Array.toList_append, List.append_assoc]
      rw [List.getElem?_append_left (by omega), List.getElem?_take_of_lt (by omega), Array.getElem?_toList, <- Array.getD_eq_getD_getElem?]) (fun j u hj => WI _ (Lib.strCells s) zv.cells _ _ j u hol1 hj)
    rw [hsl] at r2
    exact ⟨_, _, g', hr, r1, r2⟩
theorem Q8 {x : Cx} {g : Gh} {σ : St} {a : Act} {w : World} (hr : Rel x g σ a w) {s d id n e : Nat} {rows : List (List D)} (hb : σ.b id = some (.arr e 1 rows)) (hn : n <= rows.length) (h1 : x.P.underlying s = some (.slice (x.P.elem s))) (h2 : x.P.underlying (x.P.elem s) = some (.int .u8)) (h3 : x.P.underlying d = some .string) (h4 : ∀ r ∈ rows.take n, ∃ b : UInt8, r = u8R b) {u : Value} (hu : RE g w (.bs id 1 n) u) :
  (convert s d u).run x.P w = .ok (.string (rowsB (rows.take n))) w := by
 obtain ⟨l, hl⟩ : ∃ l : List UInt8, rows.take n = l.map u8R := by
  clear hn hb
  generalize rows.take n = rs at h4
  induction rs with
  | nil => exact ⟨[], rfl⟩
  | cons r rs ih =>
   obtain ⟨b, hb⟩ := h4 r (by simp)
   obtain ⟨l, hl⟩ := ih fun r hr => h4 r (by simp [hr])
   exact ⟨b :: l, by rw [hb, hl]; rfl⟩
 rw [hl, rowsB_map]
 have hln : l.length = n := by
  have := congrArg List.length hl
  rw [List.length_take, List.length_map] at this
  omega
 obtain ⟨rfl, u1, u2, u3⟩ := (show RC g w none (.bs id 1 n) u from hu)
 cases hβ : g.β id with
 | none =>
  have hκ := u3 hβ
  have hn0 : n = 0 := by omega
  subst hn0
  obtain rfl : l = [] := List.eq_nil_of_length_eq_zero hln
  simp only [Option.map_none, hκ]
  simp [convert, run_underlying h1, run_underlying h2, run_underlying h3, Conv.bytesToString, loadCells, loadCellsFrom]
  try rfl
 | some b =>
  have hR : Rep g.S g.up w (some (.root id)) (.osl e 1 (rows.take n)) (.slice ((g.β id).map fun b => ⟨b, 0, none⟩) n (g.κ id)) := Rep.osl_take (hr.ob id _ hb) n hn
  rw [hβ, Option.map_some, hl] at hR
  obtain ⟨-, vals, hS, hc⟩ := hR.ovals (by rw [List.length_map, hln])
  simp only [Option.map_some]
  have := run_convert_bytes_back w s d (x.P.elem s) ⟨b, 0, none⟩ (g.κ id) l h1 h2 h3 fun j hj => by
   obtain ⟨-, -, hS⟩ := hS
   obtain ⟨v, hv, hrep⟩ := hS j 0 (u8R l[j]) (.s (.int .u8 l[j].toNat)) (by rw [List.getElem?_map, List.getElem?_eq_getElem hj]; rfl) rfl
   rw [Nat.mul_one, Nat.add_zero] at hv
   have : v = .int .u8 l[j].toNat := by
    rcases hrep with q | ⟨b', -, q⟩
    ·exact Rep.s_inv q
    ·exact Rep.s_inv q
   rw [hc j v hv, this]
  rw [hln] at this
  exact this
def aop3 (P : Program) (σ : St) (dst : Option Tmp) : Op -> Option (Prop × D × St)
 | .convert s d z => match xu (ev σ z) with
  | .bs id k n => match σ.b id with
   | some (.arr e k' rows) => some (oblT (ev σ z) /\ k = 1 /\ k' = 1 /\ n <= rows.length /\ P.underlying s = some (.slice (P.elem s)) /\ P.underlying (P.elem s) = some (.int .u8) /\ P.underlying d = some .string /\ (∀ r ∈ rows.take n, ∃ b : UInt8, r = u8R b), .s (.string (rowsB (rows.take n))), σ)
   | _ => none
  | _ => none
 | .call ⟨.builtin .append, args, ts⟩ => match dst, args.toList, ts.toList with
  | some d, [s, z], [t, t'] => match tk P t with
   | .sl e k by_ _ => match xu (ev σ z) with
    | .s (.string str) => match xu (ev σ s) with
     | .bs id k' n => match σ.b id with
      | some (.arr e' k'' rows) => some (P.underlying t' = some .string /\ oblT (ev σ s) /\ oblT (ev σ z) /\ e' = e /\ k = 1 /\ k' = 1 /\ k'' = 1 /\ n <= rows.length /\ (n + str.size) * by_ <= 140737488355328 /\ n + str.size <= 140737488355328,
        .bs (nmA d id) 1 (n + str.size), (σ.sc (pOut [nmA d id, id]) (pOut [nmA d id, id])).setB (nmA d id) (.arr e 1 (rows.take n ++ strR str)))
      | _ => none
     | _ => none
    | _ => none
   | _ => none
  | _, _, _ => none
 | _ => none
theorem aop3_ok {x : Cx} {σ σ' : St} {o : Oper} {ob : Prop} {y : D} (h : aop3 x.P σ o.dst o.op = some (ob, y, σ')) (ho : ob) (hdP : ∀ d, o.dst = some d -> isP d = false) {g : Gh} {a : Act} {w : World} (hr : Rel x g σ a w) :
  ∃ w' g', Rel x g' σ' a w' /\ ∃ r, (execOp a.eval o).run x.P w = .ok (.value r) w' /\ RT g' w' y r := by
 have hev := vf hr
 have hb : ∀ z, oblT (ev σ z) -> RE g w (xu (ev σ z)) (a.eval z) := fun z hz => y8 (hev z) hz
 unfold aop3 at h
 split at h
 ·rename_i s d z hop
  split at h
  ·rename_i id k n hz
   split at h
   ·rename_i e k' rows hrow
    injection h with h; injection h with e1 e2; injection e2 with e2 e3
    subst e1 e2 e3
    obtain ⟨o1, rfl, rfl, o2, o3, o4, o5, o6⟩ := ho
    have hz' := hb z o1
    rw [hz] at hz'
    have hc := Q8 hr hrow o2 o3 o4 o5 o6 hz'
    refine ⟨w, g, hr, .string (rowsB (rows.take n)), ?_, Rep.rt (.str _)⟩
    simp only [execOp, hop, Sem.run_bind]
    rw [hc]; rfl
   ·cases h
  ·cases h
 ·rename_i args ts hop
  split at h
  ·rename_i d s z t t' hd ha ht
   have ea : args = #[s, z] := Array.ext' ha
   have et : ts = #[t, t'] := Array.ext' ht
   subst ea et
   split at h
   ·rename_i e k by_ zz hk
    split at h
    ·rename_i str hz
     split at h
     ·rename_i id k' n hs
      split at h
      ·rename_i e' k'' rows hrow
       injection h with h; injection h with e1 e2; injection e2 with e2 e3
       subst e1 e2 e3
       obtain ⟨o0, o1, o2, rfl, rfl, rfl, rfl, o3, o6, o7⟩ := ho
       have hs' := hb s o1
       rw [hs] at hs'
       have hz' := hb z o2
       rw [hz] at hz'
       have hz' : a.eval z = .string str := Rep.s_inv hz'
       obtain ⟨v', w', g', r1, r2, r3⟩ := hr.appendStr (ty := o.type) hk o0 str hrow o3 (nmA d id) (by unfold nmA; split; exact hdP d hd; simp_all) o6 (by unfold maxLen; omega) hs'
       refine ⟨w', g', r2, v', ?_, r3.re.rt⟩
       simp only [execOp, hop, resolve, invoke, builtin, Sem.run_bind, Sem.run_pure, Result.andThen_ok, List.map_toArray, List.map_cons, List.map_nil, hz']
       rw [r1]; rfl
      ·cases h
     ·cases h
    ·cases h
   ·cases h
  ·cases h
 ·cases h
end
end Go.Proofs.YtmnokalddmlogaaGreat
