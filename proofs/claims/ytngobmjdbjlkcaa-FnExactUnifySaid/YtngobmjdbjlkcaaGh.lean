import Derived.Test.YtngobmjdbjlkcaaGg
/- The second engine, eighth part: append, all cases. -/
namespace Go.Proofs.Ytngobmjdbjlkcaa
set_option linter.unusedVariables false
set_option linter.unusedSimpArgs false
open Go.RowKit
/-- nothing appended. -/
theorem run_append_zero {P : Program} (w : World) (t ty e : TypeId) (i : TypeInfo) (ht : P.underlying t = some (.slice e)) (hi : P.info? e = some i) (base : Option Addr) (n cap : Nat) (hn : n ≤ cap) (a : Option Addr) (c : Nat) :
    (Builtin.append_ #[t, t] ty #[.slice base n cap, .slice a 0 c]).run P w = .ok (.slice base n cap) w := by
  cases a <;> cases base <;> simp [Builtin.append_, run_underlying ht, sizeOf, typeInfo, hi, Builtin.lenOf, Builtin.firstCells, loadCells, loadCellsFrom, storeCells, hn]
theorem zc_new (xs news : List Value) (z : Array Value) (n k j : Nat) (u : Value) (hx : xs.length = n) (hj : news[j]? = some u) : (xs.toArray ++ news.toArray ++ Builtin.zeroCells z k).getD (n + j) undef = u := by
  have hl := (List.getElem?_eq_some_iff.1 hj).1
  rw [Array.getD_eq_getD_getElem?, ← Array.getElem?_toList]
  simp only [Array.toList_append, List.append_assoc]
  rw [List.getElem?_append_right (by omega), hx, Nat.add_sub_cancel_left, List.getElem?_append_left hl, hj]; rfl
theorem Rel.appendPos {x : Cx} {g : Gh} {σ : St} {a : Act} {w : World} (h : Rel x g σ a w) {t ty e k by_ : Nat} {z : List D} (hk : tk x.P t = .sl e k by_ z) {id n : Nat} {rows rows' : List (List D)} {vals : List Value} {src : Option Nat} {ids : List Nat} (hb : σ.b id = some (.arr e k rows)) (hn : n ≤ rows.length) (hid : id ∉ ids) (nid : Nat) (hnP : isP nid = false)
    (hsrc : ∀ b, src = some b → ∃ m ∈ ids, g.up b = some (.root m)) (hS : Src g w k rows' vals src) (ad : Addr) (c : Nat) (hcells : ∀ j v, vals[j]? = some v → w.cell? (ad.add j) = some v) (hpos : 0 < rows'.length) (hroom : (n + rows'.length) * by_ ≤ 140737488355328) (hmax : n + rows'.length ≤ maxLen) {v : Value} (hv : RC g w none (.bs id k n) v) :
    ∃ v' w' g', (Builtin.append_ #[t, t] ty #[v, .slice (some ad) rows'.length c]).run x.P w = .ok v' w' ∧ Rel x g' ((σ.sc (pOut (nid :: id :: ids)) (pOut (nid :: id :: ids))).setB nid (.arr e k (rows.take n ++ rows'))) a w' ∧ RC g' w' none (.bs nid k (n + rows'.length)) v' := by
  obtain ⟨ht, i, zv, hi, hz, hsz, hby, hzs, hk0, hz1, -, -⟩ := tk_sl hk
  subst hsz
  obtain ⟨rfl, v1, v2, v3⟩ := hv
  have hR0 : Rep g.S g.up w (some (.root id)) (.osl e i.size rows) (.slice ((g.β id).map fun b => ⟨b, 0, none⟩) rows.length (g.κ id)) := h.ob id _ hb
  have hvl := hS.1
  have hsmall : n + rows'.length ≤ 9223372036854775807 := by simp only [maxLen] at hmax; omega
  have hpush : ∀ (o : Obj) (b : Nat), b < w.heap.size → (w.drew.alloc o).heap[b]? = w.heap[b]? := fun o b hb => Below.heap_alloc w.drew _ _ hb
  have hsz1 : ∀ o : Obj, (w.drew.alloc o).heap.size = w.heap.size + 1 := fun o => by rw [alloc_size]; rfl
  cases hβ : g.β id with
  | none =>
    have hn0 : n = 0 := by have := v3 hβ; omega
    subst hn0
    have hκ := v3 hβ
    simp only [Option.map_none, hκ]
    simp only [Nat.zero_add] at *
    have hr := run_append_nil (P := x.P) w t ty e i zv ht hi hz ad rows'.length c vals hvl hcells hpos (by omega) (by rw [hby]; omega)
    have hge := grownCap_ge w rows'.length 0 e
    obtain ⟨g', q1, q2⟩ := h.regrow (n := 0) hb (Nat.zero_le _) hid nid hnP hsrc hS w.heap.size (vals.toArray ++ Builtin.zeroCells zv.cells (grownCap w rows'.length 0 e - rows'.length)) (grownCap w rows'.length 0 e) (.inl rfl)
      (w' := w.drew.alloc (.cells (vals.toArray ++ Builtin.zeroCells zv.cells (grownCap w rows'.length 0 e - rows'.length)) e)) (fun b hb _ => hpush _ b hb) ((Below.refl _ _).drew.trans ((Below.refl _ _).alloc (Nat.zero_le _) _)) (by rw [hsz1]; omega) (heap_alloc_new w.drew _) (by omega) (grownCap_le_maxLen w _ 0 e hmax) (by
        simp only [Array.size_append, List.size_toArray, size_zeroCells, hzs, hvl, ← Nat.add_mul]
        congr 1; omega) (fun b _ q => by rw [hβ] at q; cases q) (fun j u hj => by
        have := zc_new [] vals zv.cells 0 (grownCap w rows'.length 0 e - rows'.length) j u rfl hj
        rw [Nat.zero_mul]; simpa using this)
    simp only [Nat.zero_add] at q1 q2
    exact ⟨_, _, g', hr, q1, q2⟩
  | some bo =>
    rw [hβ, Option.map_some] at hR0
    simp only [Option.map_some]
    cases hR0 with
    | @osl _ _ _ _ _ _ cs q1 q2 q3 q4 q5 q6 q7 =>
      have hle : n * i.size ≤ cs.size := by rw [q5]; exact Nat.mul_le_mul_right _ v1
      by_cases hfit : n + rows'.length ≤ g.κ id
      · have hfit' : n * i.size + vals.length ≤ cs.size := by rw [hvl, q5, ← Nat.add_mul]; exact Nat.mul_le_mul_right _ hfit
        have hr := run_append_room (P := x.P) w t ty e i ht hi bo n (g.κ id) cs q2 ad rows'.length c vals hvl hcells (hS.one hk0) hfit hfit'
        generalize hnew : (cs.toList.take (n * i.size) ++ vals ++ cs.toList.drop (n * i.size + vals.length)).toArray = cs' at hr
        have hcl : cs.toList.length = cs.size := Array.length_toList
        have hlay : cs'.toList = lay cs.toList (n * i.size) vals := by subst hnew; rfl
        have hgd : ∀ m, cs'.getD m undef = (lay cs.toList (n * i.size) vals).getD m undef := fun m => by
          rw [List.getD_eq_getElem?_getD, Array.getD_eq_getD_getElem?, ← hlay, Array.getElem?_toList]
        obtain ⟨g', r1, r2⟩ := h.regrow hb hn hid nid hnP hsrc hS bo cs' (g.κ id) (.inr hβ) (w' := w.setRow bo cs') (fun b _ hne => setRow_other _ _ _ _ (fun e => hne (by rw [hβ, e]))) ⟨rfl, rfl, rfl, by simp, fun c hc => by omega⟩ (by
          rw [setRow_size]; exact (h.own bo _ q1).1) (setRow_heap w bo cs _ e _ q2) hfit v2 (by rw [← Array.length_toList, hlay, lay_len (by omega), hcl]; exact q5) (fun b cs0 hb' hc0 j hj => by
            rw [hβ] at hb'; injection hb' with hb'; subst hb'
            rw [q2] at hc0; injection hc0 with hc0; injection hc0 with hc0; subst hc0
            rw [hgd, List.getD_eq_getElem?_getD, lay_at (by omega), if_neg (by omega), Array.getElem?_toList, ← Array.getD_eq_getD_getElem?]) (fun j u hj => by
            have hl := (List.getElem?_eq_some_iff.1 hj).1
            rw [hgd, List.getD_eq_getElem?_getD, lay_at (by omega), if_pos (by omega), Nat.add_sub_cancel_left, hj]; rfl)
        exact ⟨_, _, g', hr, r1, r2⟩
      · have hcl : cs.toList.length = cs.size := Array.length_toList
        have hol : (cs.toList.take (n * i.size)).length = n * i.size := by rw [List.length_take]; omega
        have holds : ∀ j u, (cs.toList.take (n * i.size))[j]? = some u → w.cell? ((⟨bo, 0, none⟩ : Addr).add j) = some u := fun j u hj => by
          have hlt := (List.getElem?_eq_some_iff.1 hj).1
          rw [hol] at hlt
          rw [List.getElem?_take_of_lt hlt, Array.getElem?_toList] at hj
          rw [add_lit]
          simp only [World.cell?, q2, Nat.zero_add]
          rw [if_neg (by simp)]; exact hj
        have hr := run_append_grow (P := x.P) w t ty e i zv ht hi hz ⟨bo, 0, none⟩ n (g.κ id) _ hol holds ad rows'.length c vals hvl hcells (by omega) (by omega) (growslice_fits (by omega) (by rw [hby]; exact hroom))
        have hge := grownCap_ge w (n + rows'.length) (g.κ id) e
        obtain ⟨g', r1, r2⟩ := h.regrow hb hn hid nid hnP hsrc hS w.heap.size ((cs.toList.take (n * i.size)).toArray ++ vals.toArray ++ Builtin.zeroCells zv.cells (grownCap w (n + rows'.length) (g.κ id) e - (n + rows'.length))) (grownCap w (n + rows'.length) (g.κ id) e) (.inl rfl)
          (w' := w.drew.alloc (.cells ((cs.toList.take (n * i.size)).toArray ++ vals.toArray ++ Builtin.zeroCells zv.cells (grownCap w (n + rows'.length) (g.κ id) e - (n + rows'.length))) e)) (fun b hb _ => hpush _ b hb) ((Below.refl _ _).drew.trans ((Below.refl _ _).alloc (Nat.zero_le _) _)) (by rw [hsz1]; omega) (heap_alloc_new w.drew _) (by omega) (grownCap_le_maxLen w _ _ e hmax) (by
            simp only [Array.size_append, List.size_toArray, size_zeroCells, hzs, hvl, hol, ← Nat.add_mul]
            congr 1; omega) (fun b cs0 hb' hc0 j hj => by
            rw [hβ] at hb'; injection hb' with hb'; subst hb'
            rw [q2] at hc0; injection hc0 with hc0; injection hc0 with hc0; subst hc0
            rw [Array.getD_eq_getD_getElem?, ← Array.getElem?_toList]
            simp only [Array.toList_append, List.append_assoc]
            rw [List.getElem?_append_left (by omega), List.getElem?_take_of_lt hj, Array.getElem?_toList, ← Array.getD_eq_getD_getElem?]) (fun j u hj => zc_new _ vals zv.cells _ _ j u hol hj)
        exact ⟨_, _, g', hr, r1, r2⟩
/-- a name for a slice that is nil. -/
theorem Rel.void {x : Cx} {g : Gh} {σ : St} {a : Act} {w : World} (h : Rel x g σ a w) (d e k : Nat) (hdP : isP d = false) :
    ∃ g', g'.S = g.S ∧ g'.up = g.up ∧ (∀ i, i ≠ d → g'.β i = g.β i ∧ g'.κ i = g.κ i) ∧ Rel x g' ((σ.sc (pOut [d]) (pOut [d])).setB d (.arr e k [])) a w ∧ RC g' w none (.bs d k 0) (.slice none 0 0) := by
  have hev : Ev (fun _ => True) (fun p => p) (pOut [d]) (pOut [d]) g ⟨fun i => if i = d then none else g.β i, fun i => if i = d then 0 else g.κ i, g.up, g.S⟩ w w := by
    refine ⟨⟨fun b hb => ⟨hb, rfl⟩, fun b p hb _ => ⟨hb, rfl⟩, fun b p o _ _ => ⟨trivial, rfl⟩⟩, fun i hi => ?_, fun i hi => ⟨hi, trivial, rfl⟩⟩
    have := pOut_spec hi d (by simp)
    exact ⟨by show (if i = d then _ else _) = _; rw [if_neg this], by show (if i = d then _ else _) = _; rw [if_neg this]⟩
  have hR := h.ev hev (Below.refl _ _) (fun b _ _ => rfl) (fun b _ hs => .inl hs) h.new h.own
  refine ⟨⟨fun i => if i = d then none else g.β i, fun i => if i = d then 0 else g.κ i, g.up, g.S⟩, rfl, rfl, fun i hi => ⟨by show (if i = d then _ else _) = _; rw [if_neg hi], by show (if i = d then _ else _) = _; rw [if_neg hi]⟩, hR.setB (id := d) (o := .arr e k []) ?_ (fun q => by rw [hdP] at q; cases q), ?_⟩
  · show Rep _ _ _ _ _ _
    simp only [if_true, Option.map_none]
    exact .osl0
  · exact ⟨by simp, by simp, by simp [maxLen], fun _ => by simp⟩
end Go.Proofs.Ytngobmjdbjlkcaa
