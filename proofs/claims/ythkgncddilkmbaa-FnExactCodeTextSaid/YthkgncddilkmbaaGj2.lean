import Derived.Test.YthkgncddilkmbaaGj
import Derived.Lib.AppendStr
import Derived.Laws.IdiomStrings
/- The second engine, tenth part, more: a string appended to bytes, bytes made a string. -/
namespace Go.Proofs.Ythkgncddilkmbaa
set_option linter.unusedVariables false
set_option linter.unusedSimpArgs false
open Go.RowKit
def u8R (b : UInt8) : List D := [.s (.int .u8 b.toNat)]
theorem u8R_eq (b : UInt8) : u8R b = [.s (.int .u8 b.toNat)] := rfl
def strR (s : ByteArray) : List (List D) := s.data.toList.map u8R
theorem strR_len (s : ByteArray) : (strR s).length = s.size := by unfold strR; rw [List.length_map, Array.length_toList]; rfl
def rowB : List D → UInt8
  | [.s (.int .u8 n)] => UInt8.ofNat n.toNat
  | _ => 0
theorem rowB_u8 (b : UInt8) : rowB (u8R b) = b := by simp [rowB, u8R]
def rowsB (rows : List (List D)) : ByteArray := ⟨(rows.map rowB).toArray⟩
theorem rowsB_map (l : List UInt8) : rowsB (l.map u8R) = ⟨l.toArray⟩ := by
  unfold rowsB
  rw [List.map_map]
  congr 2
  conv => rhs; rw [← List.map_id l]
  exact List.map_congr_left fun b _ => rowB_u8 b
theorem strSrc {g : Gh} {w : World} (s : ByteArray) : Src g w 1 (strR s) (Lib.strCells s) none := by
  refine ⟨by rw [Lib.strCells_length, strR_len]; omega, fun i row h => ?_, fun i j row d h1 h2 => ?_⟩
  · unfold strR at h
    rw [List.getElem?_map] at h
    obtain ⟨b, -, rfl⟩ := Option.map_eq_some_iff.1 h
    rfl
  · unfold strR at h1
    rw [List.getElem?_map] at h1
    obtain ⟨b, hb, rfl⟩ := Option.map_eq_some_iff.1 h1
    match j, h2 with
    | 0, h2 =>
      have : D.s (.int .u8 b.toNat) = d := by simpa [u8R] using h2
      subst this
      refine ⟨.int .u8 b.toNat, ?_, .inl (.i _ _)⟩
      unfold Lib.strCells
      rw [Nat.mul_one, Nat.add_zero, List.getElem?_map, hb]; rfl
    | j + 1, h2 => simp [u8R] at h2
theorem strCells_arr (s : ByteArray) : s.data.map (fun b => Value.int .u8 b.toNat) = (Lib.strCells s).toArray := by
  apply Array.ext'
  simp [Lib.strCells]
theorem run_append_zero_str {P : Program} (w : World) (t u ty e : TypeId) (i : TypeInfo) (ht : P.underlying t = some (.slice e)) (hu : P.underlying u = some .string) (hi : P.info? e = some i) (s : ByteArray) (hs : s.size = 0) :
    (Builtin.append_ #[t, u] ty #[.slice none 0 0, .string s]).run P w = .ok (.slice none 0 0) w := by
  have hd : s.data = #[] := by
    have : s.data.size = 0 := hs
    exact Array.eq_empty_of_size_eq_zero this
  simp [Builtin.append_, run_underlying ht, run_underlying hu, sizeOf, typeInfo, hi, Builtin.lenOf, Builtin.firstCells, hs, hd]
theorem Rel.appendStr {x : Cx} {g : Gh} {σ : St} {a : Act} {w : World} (h : Rel x g σ a w) {t u ty e by_ : Nat} {z : List D} (hk : tk x.P t = .sl e 1 by_ z) (hu : x.P.underlying u = some .string) {id n : Nat} {rows : List (List D)} (s : ByteArray) (hb : σ.b id = some (.arr e 1 rows)) (hn : n ≤ rows.length) (nid : Nat) (hnP : isP nid = false)
    (hroom : (n + s.size) * by_ ≤ 140737488355328) (hmax : n + s.size ≤ maxLen) {v : Value} (hv : RC g w none (.bs id 1 n) v) :
    ∃ v' w' g', (Builtin.append_ #[t, u] ty #[v, .string s]).run x.P w = .ok v' w' ∧ Rel x g' ((σ.sc (pOut [nid, id]) (pOut [nid, id])).setB nid (.arr e 1 (rows.take n ++ strR s))) a w' ∧ RC g' w' none (.bs nid 1 (n + s.size)) v' := by
  obtain ⟨ht, i, zv, hi, hz, hsz, hby, hzs, hk0, hz1, -, -⟩ := tk_sl hk
  obtain ⟨rfl, v1, v2, v3⟩ := hv
  have hR0 : Rep g.S g.up w (some (.root id)) (.osl e 1 rows) (.slice ((g.β id).map fun b => ⟨b, 0, none⟩) rows.length (g.κ id)) := h.ob id _ hb
  have hS : Src g w 1 (strR s) (Lib.strCells s) none := strSrc s
  have hsl := strR_len s
  have hvl := Lib.strCells_length s
  have hsmall : n + s.size ≤ 9223372036854775807 := by simp only [maxLen] at hmax; omega
  have hpush : ∀ (o : Obj) (b : Nat), b < w.heap.size → (w.drew.alloc o).heap[b]? = w.heap[b]? := fun o b hb => Below.heap_alloc w.drew _ _ hb
  have hsz1 : ∀ o : Obj, (w.drew.alloc o).heap.size = w.heap.size + 1 := fun o => by rw [alloc_size]; rfl
  have hid : id ∉ ([] : List Nat) := by simp
  cases hβ : g.β id with
  | none =>
    have hn0 : n = 0 := by have := v3 hβ; omega
    subst hn0
    have hκ := v3 hβ
    simp only [Option.map_none, hκ]
    simp only [Nat.zero_add] at *
    by_cases hp : s.size = 0
    · have hrun := run_append_zero_str (P := x.P) w t u ty e i ht hu hi s hp
      obtain ⟨g1, n1, n2, n3, n4, n5⟩ := h.void nid e 1 hnP
      have h2 := (n4.forget [nid, id]).setB (id := nid) (o := .arr e 1 []) (n4.ob nid _ (by simp [St.setB])) (fun q => by rw [hnP] at q; cases q)
      rw [void_sc] at h2
      have h0 : strR s = [] := List.eq_nil_of_length_eq_zero (by rw [hsl, hp])
      rw [h0, hp]
      exact ⟨_, w, g1, hrun, by simpa using h2, n5⟩
    · have hr := run_append_nil_string (P := x.P) w t u ty e i zv ht hu hi hz s (by omega) (by omega) (by rw [hby]; omega)
      rw [strCells_arr] at hr
      have hge := grownCap_ge w s.size 0 e
      obtain ⟨g', q1, q2⟩ := h.regrow (n := 0) hb (Nat.zero_le _) hid nid hnP (fun b q => (by cases q)) hS w.heap.size ((Lib.strCells s).toArray ++ Builtin.zeroCells zv.cells (grownCap w s.size 0 e - s.size)) (grownCap w s.size 0 e) (.inl rfl)
        (w' := w.drew.alloc (.cells ((Lib.strCells s).toArray ++ Builtin.zeroCells zv.cells (grownCap w s.size 0 e - s.size)) e)) (fun b hb _ => hpush _ b hb) ((Below.refl _ _).drew.trans ((Below.refl _ _).alloc (Nat.zero_le _) _)) (by rw [hsz1]; omega) (heap_alloc_new w.drew _) (by rw [hsl]; omega) (grownCap_le_maxLen w _ 0 e hmax) (by
          simp only [Array.size_append, List.size_toArray, size_zeroCells, hzs, hvl, hsz, Nat.mul_one]; omega) (fun b _ q => by rw [hβ] at q; cases q) (fun j u hj => by
          have := zc_new [] (Lib.strCells s) zv.cells 0 (grownCap w s.size 0 e - s.size) j u rfl hj
          rw [Nat.zero_mul]; simpa using this)
      simp only [Nat.zero_add, hsl] at q1 q2
      exact ⟨_, _, g', hr, q1, q2⟩
  | some bo =>
    rw [hβ, Option.map_some] at hR0
    simp only [Option.map_some]
    cases hR0 with
    | @osl _ _ _ _ _ _ cs q1 q2 q3 q4 q5 q6 q7 =>
      rw [Nat.mul_one] at q5
      have hle : n ≤ cs.size := by rw [q5]; exact v1
      by_cases hfit : n + s.size ≤ g.κ id
      · have hr := Lib.run_append_room_string (P := x.P) w t u ty e i ht hu hi hsz bo n (g.κ id) cs q2 s hfit (by omega)
        generalize hnew : (cs.toList.take n ++ Lib.strCells s ++ cs.toList.drop (n + s.size)).toArray = cs' at hr
        have hcl : cs.toList.length = cs.size := Array.length_toList
        have hlay : cs'.toList = lay cs.toList (n * 1) (Lib.strCells s) := by subst hnew; unfold lay; rw [Nat.mul_one, hvl]
        have hgd : ∀ m, cs'.getD m undef = (lay cs.toList (n * 1) (Lib.strCells s)).getD m undef := fun m => by
          rw [List.getD_eq_getElem?_getD, Array.getD_eq_getD_getElem?, ← hlay, Array.getElem?_toList]
        obtain ⟨g', r1, r2⟩ := h.regrow hb hn hid nid hnP (fun b q => (by cases q)) hS bo cs' (g.κ id) (.inr hβ) (w' := w.setRow bo cs') (fun b _ hne => setRow_other _ _ _ _ (fun e => hne (by rw [hβ, e]))) ⟨rfl, rfl, rfl, by simp, fun c hc => by omega⟩ (by
          rw [setRow_size]; exact (h.own bo _ q1).1) (setRow_heap w bo cs _ e _ q2) (by rw [hsl]; exact hfit) v2 (by rw [← Array.length_toList, hlay, lay_len (by omega), hcl, Nat.mul_one]; exact q5) (fun b cs0 hb' hc0 j hj => by
            rw [hβ] at hb'; injection hb' with hb'; subst hb'
            rw [q2] at hc0; injection hc0 with hc0; injection hc0 with hc0; subst hc0
            rw [hgd, List.getD_eq_getElem?_getD, lay_at (by omega), if_neg (by omega), Array.getElem?_toList, ← Array.getD_eq_getD_getElem?]) (fun j u hj => by
            have hl := (List.getElem?_eq_some_iff.1 hj).1
            rw [hgd, List.getD_eq_getElem?_getD, lay_at (by omega), if_pos (by omega), Nat.add_sub_cancel_left, hj]; rfl)
        rw [hsl] at r2
        exact ⟨_, _, g', hr, r1, r2⟩
      · have hcl : cs.toList.length = cs.size := Array.length_toList
        have hol : (cs.toList.take n).length = n * i.size := by rw [List.length_take, hsz]; omega
        have hol1 : (cs.toList.take n).length = n * 1 := by rw [List.length_take]; omega
        have holds : ∀ j u, (cs.toList.take n)[j]? = some u → w.cell? ((⟨bo, 0, none⟩ : Addr).add j) = some u := fun j u hj => by
          have hlt := (List.getElem?_eq_some_iff.1 hj).1
          rw [hol1] at hlt
          rw [List.getElem?_take_of_lt (by omega), Array.getElem?_toList] at hj
          rw [add_lit]
          simp only [World.cell?, q2, Nat.zero_add]
          rw [if_neg (by simp)]; exact hj
        have hr := Lib.run_append_grow_string (P := x.P) w t u ty e i zv ht hu hi hz ⟨bo, 0, none⟩ n (g.κ id) _ hol holds s (by omega) (by omega) (growslice_fits (by omega) (by rw [hby]; exact hroom))
        have hge := grownCap_ge w (n + s.size) (g.κ id) e
        obtain ⟨g', r1, r2⟩ := h.regrow hb hn hid nid hnP (fun b q => (by cases q)) hS w.heap.size ((cs.toList.take n).toArray ++ (Lib.strCells s).toArray ++ Builtin.zeroCells zv.cells (grownCap w (n + s.size) (g.κ id) e - (n + s.size))) (grownCap w (n + s.size) (g.κ id) e) (.inl rfl)
          (w' := w.drew.alloc (.cells ((cs.toList.take n).toArray ++ (Lib.strCells s).toArray ++ Builtin.zeroCells zv.cells (grownCap w (n + s.size) (g.κ id) e - (n + s.size))) e)) (fun b hb _ => hpush _ b hb) ((Below.refl _ _).drew.trans ((Below.refl _ _).alloc (Nat.zero_le _) _)) (by rw [hsz1]; omega) (heap_alloc_new w.drew _) (by rw [hsl]; omega) (grownCap_le_maxLen w _ _ e hmax) (by
            simp only [Array.size_append, List.size_toArray, size_zeroCells, hzs, hvl, hol1, hsz, Nat.mul_one]; omega) (fun b cs0 hb' hc0 j hj => by
            rw [hβ] at hb'; injection hb' with hb'; subst hb'
            rw [q2] at hc0; injection hc0 with hc0; injection hc0 with hc0; subst hc0
            rw [Array.getD_eq_getD_getElem?, ← Array.getElem?_toList]
            simp only [Array.toList_append, List.append_assoc]
            rw [List.getElem?_append_left (by omega), List.getElem?_take_of_lt (by omega), Array.getElem?_toList, ← Array.getD_eq_getD_getElem?]) (fun j u hj => zc_new _ (Lib.strCells s) zv.cells _ _ j u hol1 hj)
        rw [hsl] at r2
        exact ⟨_, _, g', hr, r1, r2⟩
theorem bytes_conv {x : Cx} {g : Gh} {σ : St} {a : Act} {w : World} (hr : Rel x g σ a w) {s d id n e : Nat} {rows : List (List D)} (hb : σ.b id = some (.arr e 1 rows)) (hn : n ≤ rows.length) (h1 : x.P.underlying s = some (.slice (x.P.elem s))) (h2 : x.P.underlying (x.P.elem s) = some (.int .u8)) (h3 : x.P.underlying d = some .string) (h4 : ∀ r ∈ rows.take n, ∃ b : UInt8, r = u8R b) {u : Value} (hu : RE g w (.bs id 1 n) u) :
    (convert s d u).run x.P w = .ok (.string (rowsB (rows.take n))) w := by
  obtain ⟨l, hl⟩ : ∃ l : List UInt8, rows.take n = l.map u8R := by
    clear hn hb
    generalize rows.take n = rs at h4
    induction rs with
    | nil => exact ⟨[], rfl⟩
    | cons r rs ih =>
      obtain ⟨b, hb⟩ := h4 r (by simp)
      obtain ⟨l, hl⟩ := ih fun r hr => h4 r (by simp [hr])
      exact ⟨b :: l, by rw [hb, hl]; rfl⟩
  rw [hl, rowsB_map]
  have hln : l.length = n := by
    have := congrArg List.length hl
    rw [List.length_take, List.length_map] at this
    omega
  obtain ⟨rfl, u1, u2, u3⟩ := (show RC g w none (.bs id 1 n) u from hu)
  cases hβ : g.β id with
  | none =>
    have hκ := u3 hβ
    have hn0 : n = 0 := by omega
    subst hn0
    obtain rfl : l = [] := List.eq_nil_of_length_eq_zero hln
    simp only [Option.map_none, hκ]
    simp [convert, run_underlying h1, run_underlying h2, run_underlying h3, Conv.bytesToString, loadCells, loadCellsFrom]
    try rfl
  | some b =>
    have hR : Rep g.S g.up w (some (.root id)) (.osl e 1 (rows.take n)) (.slice ((g.β id).map fun b => ⟨b, 0, none⟩) n (g.κ id)) := Rep.osl_take (hr.ob id _ hb) n hn
    rw [hβ, Option.map_some, hl] at hR
    obtain ⟨-, vals, hS, hc⟩ := hR.ovals (by rw [List.length_map, hln])
    simp only [Option.map_some]
    have := run_convert_bytes_back w s d (x.P.elem s) ⟨b, 0, none⟩ (g.κ id) l h1 h2 h3 fun j hj => by
      obtain ⟨-, -, hS⟩ := hS
      obtain ⟨v, hv, hrep⟩ := hS j 0 (u8R l[j]) (.s (.int .u8 l[j].toNat)) (by rw [List.getElem?_map, List.getElem?_eq_getElem hj]; rfl) rfl
      rw [Nat.mul_one, Nat.add_zero] at hv
      have : v = .int .u8 l[j].toNat := by
        rcases hrep with q | ⟨b', -, q⟩
        · exact Rep.s_inv q
        · exact Rep.s_inv q
      rw [hc j v hv, this]
    rw [hln] at this
    exact this
/-- what few texts do. -/
def aop3 (P : Program) (σ : St) (dst : Option Tmp) : Op → Option (Prop × D × St)
  | .convert s d z => match bodyT (ev σ z) with
    | .bs id k n => match σ.b id with
      | some (.arr e k' rows) => some (oblT (ev σ z) ∧ k = 1 ∧ k' = 1 ∧ n ≤ rows.length ∧ P.underlying s = some (.slice (P.elem s)) ∧ P.underlying (P.elem s) = some (.int .u8) ∧ P.underlying d = some .string ∧ (∀ r ∈ rows.take n, ∃ b : UInt8, r = u8R b), .s (.string (rowsB (rows.take n))), σ)
      | _ => none
    | _ => none
  | .call ⟨.builtin .append, args, ts⟩ => match dst, args.toList, ts.toList with
    | some d, [s, z], [t, t'] => match tk P t with
      | .sl e k by_ _ => match bodyT (ev σ z) with
        | .s (.string str) => match bodyT (ev σ s) with
          | .bs id k' n => match σ.b id with
            | some (.arr e' k'' rows) => some (P.underlying t' = some .string ∧ oblT (ev σ s) ∧ oblT (ev σ z) ∧ e' = e ∧ k = 1 ∧ k' = 1 ∧ k'' = 1 ∧ n ≤ rows.length ∧ (n + str.size) * by_ ≤ 140737488355328 ∧ n + str.size ≤ 140737488355328,
                .bs (nmA d id) 1 (n + str.size), (σ.sc (pOut [nmA d id, id]) (pOut [nmA d id, id])).setB (nmA d id) (.arr e 1 (rows.take n ++ strR str)))
            | _ => none
          | _ => none
        | _ => none
      | _ => none
    | _, _, _ => none
  | _ => none
theorem aop3_ok {x : Cx} {σ σ' : St} {o : Oper} {ob : Prop} {y : D} (h : aop3 x.P σ o.dst o.op = some (ob, y, σ')) (ho : ob) (hdP : ∀ d, o.dst = some d → isP d = false) {g : Gh} {a : Act} {w : World} (hr : Rel x g σ a w) :
    ∃ w' g', Rel x g' σ' a w' ∧ ∃ r, (execOp a.eval o).run x.P w = .ok (.value r) w' ∧ RT g' w' y r := by
  have hev := ev_ok hr
  have hb : ∀ z, oblT (ev σ z) → RE g w (bodyT (ev σ z)) (a.eval z) := fun z hz => body_ok (hev z) hz
  unfold aop3 at h
  split at h
  · rename_i s d z hop
    split at h
    · rename_i id k n hz
      split at h
      · rename_i e k' rows hrow
        injection h with h; injection h with e1 e2; injection e2 with e2 e3
        subst e1 e2 e3
        obtain ⟨o1, rfl, rfl, o2, o3, o4, o5, o6⟩ := ho
        have hz' := hb z o1
        rw [hz] at hz'
        have hc := bytes_conv hr hrow o2 o3 o4 o5 o6 hz'
        refine ⟨w, g, hr, .string (rowsB (rows.take n)), ?_, Rep.rt (.str _)⟩
        simp only [execOp, hop, Sem.run_bind]
        rw [hc]; rfl
      · cases h
    · cases h
  · rename_i args ts hop
    split at h
    · rename_i d s z t t' hd ha ht
      have ea : args = #[s, z] := Array.ext' ha
      have et : ts = #[t, t'] := Array.ext' ht
      subst ea et
      split at h
      · rename_i e k by_ zz hk
        split at h
        · rename_i str hz
          split at h
          · rename_i id k' n hs
            split at h
            · rename_i e' k'' rows hrow
              injection h with h; injection h with e1 e2; injection e2 with e2 e3
              subst e1 e2 e3
              obtain ⟨o0, o1, o2, rfl, rfl, rfl, rfl, o3, o6, o7⟩ := ho
              have hs' := hb s o1
              rw [hs] at hs'
              have hz' := hb z o2
              rw [hz] at hz'
              have hz' : a.eval z = .string str := Rep.s_inv hz'
              obtain ⟨v', w', g', r1, r2, r3⟩ := hr.appendStr (ty := o.type) hk o0 str hrow o3 (nmA d id) (by unfold nmA; split; exact hdP d hd; simp_all) o6 (by unfold maxLen; omega) hs'
              refine ⟨w', g', r2, v', ?_, r3.re.rt⟩
              simp only [execOp, hop, resolve, invoke, builtin, Sem.run_bind, Sem.run_pure, Result.andThen_ok, List.map_toArray, List.map_cons, List.map_nil, hz']
              rw [r1]; rfl
            · cases h
          · cases h
        · cases h
      · cases h
    · cases h
  · cases h
end Go.Proofs.Ythkgncddilkmbaa
