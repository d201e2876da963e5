/- The engine, seventh part: literal slices, append. -/
import Derived.Test.YtokjkmibnjfkaaaAbF
namespace Go.Proofs.Ytokjkmibnjfkaaa
set_option linter.unusedVariables false
set_option linter.unusedSimpArgs false
open Go.RowKit
theorem drew_cell (w : World) (p : Addr) : w.drew.cell? p = w.cell? p := rfl
/-- a world with one block more, the seal grown there alone, the token there. -/
theorem Rel.fresh {x : Cx} {g : Gh} {σ : St} {a : Act} {w w1 : World} (h : Rel x g σ a w) (hd : w1 = w ∨ w1 = w.drew) (cs : Array Value) (e tok m : Nat) :
    Ev (pNot tok) pAll g ⟨g.β, fun t => if t = tok then some w.heap.size else g.τ t, fun b o => g.S b o ∨ (b = w.heap.size ∧ o < m)⟩ w (w1.alloc (.cells cs e)) ∧
    Rel x ⟨g.β, fun t => if t = tok then some w.heap.size else g.τ t, fun b o => g.S b o ∨ (b = w.heap.size ∧ o < m)⟩ (σ.sc (pNot tok) pAll) a (w1.alloc (.cells cs e)) := by
  have hb1 : Below x.B w w1 := by rcases hd with rfl | rfl; exact Below.refl _ _; exact (Below.refl _ _).drew
  have hs1 : w1.heap = w.heap := by rcases hd with rfl | rfl <;> rfl
  have hold : ∀ b, b < w.heap.size → (w1.alloc (.cells cs e)).heap[b]? = w.heap[b]? := fun b hb => by rw [Below.heap_alloc _ _ _ (by rw [hs1]; exact hb), hs1]
  have ev : Ev (pNot tok) pAll g ⟨g.β, fun t => if t = tok then some w.heap.size else g.τ t, fun b o => g.S b o ∨ (b = w.heap.size ∧ o < m)⟩ w (w1.alloc (.cells cs e)) := by
    refine ⟨⟨fun _ _ q => .inl q, fun b o q => ?_⟩, fun t ht => ⟨?_, fun b hb => ⟨hold b (h.tlt t b hb).2, fun o => ⟨fun q => ?_, .inl⟩⟩⟩, fun i _ => rfl⟩
    · simp only [World.cell?, hold b (h.new b o q)]
    · simp only [pNot, bne_iff_ne, ne_eq] at ht
      simp [ht]
    · rcases q with q | ⟨q, _⟩
      · exact q
      · have := (h.tlt t b hb).2; omega
  refine ⟨ev, h.ev ev (hb1.trans ((Below.refl _ _).alloc (by rw [hs1]; exact h.base) _)) (fun i _ hs => ?_) (fun b o hb => ⟨fun q => ?_, .inl⟩) (fun b o q => ?_) (fun i j b hi hj => ?_) (fun i b hi => ?_)⟩
  · obtain ⟨row, hr⟩ := Option.isSome_iff_exists.1 hs
    obtain ⟨b1, b2, ty, us, hh, -⟩ := h.bx i row hr
    have hlt : g.β i < w.heap.size := by
      rcases Nat.lt_or_ge (g.β i) w.heap.size with q | q
      · exact q
      · rw [Array.getElem?_eq_none q] at hh; cases hh
    refine ⟨hold _ hlt, fun o q => ?_, fun t q => ?_⟩
    · rcases q with q | ⟨q, _⟩
      · exact b2 o q
      · omega
    · simp only at q
      split at q
      · injection q with q; omega
      · exact h.bt i t hs q
  · rcases q with q | ⟨q, _⟩
    · exact q
    · have := h.base; omega
  · rw [alloc_size, hs1]
    rcases q with q | ⟨q, _⟩
    · have := h.new b o q; omega
    · omega
  · simp only at hi hj
    split at hi <;> split at hj
    · omega
    · injection hi with hi; have := (h.tlt j b hj).2; omega
    · injection hj with hj; have := (h.tlt i b hi).2; omega
    · exact h.tinj i j b hi hj
  · rw [alloc_size, hs1]
    simp only at hi
    split at hi
    · injection hi with hi; have := h.base; omega
    · have := h.tlt i b hi; omega
/-- the cells of rows. -/
def RepRows (S : Seal) (w : World) (k : Nat) (rows : List (List D)) (vals : List Value) : Prop :=
  vals.length = rows.length * k ∧ (∀ (i : Nat) (row : List D), rows[i]? = some row → row.length = k) ∧ (∀ u ∈ vals, u.oneCell' = true) ∧
  ∀ (i j : Nat) (row : List D) (d : D), rows[i]? = some row → row[j]? = some d → ∃ u, vals[i * k + j]? = some u ∧ Rep S w d u
theorem RepRows.mono {S S' : Seal} {w w' : World} (hk : Kp S S' w w') {k : Nat} {rows : List (List D)} {vals : List Value} (h : RepRows S w k rows vals) : RepRows S' w' k rows vals :=
  ⟨h.1, h.2.1, h.2.2.1, fun i j row d q1 q2 => let ⟨u, hu, hr⟩ := h.2.2.2 i j row d q1 q2; ⟨u, hu, hr.mono hk⟩⟩
theorem RepRows.append {S : Seal} {w : World} {k : Nat} {rows rows' : List (List D)} {vals vals' : List Value} (h : RepRows S w k rows vals) (h' : RepRows S w k rows' vals') : RepRows S w k (rows ++ rows') (vals ++ vals') := by
  obtain ⟨a1, a2, a3, a4⟩ := h
  obtain ⟨b1, b2, b3, b4⟩ := h'
  refine ⟨by rw [List.length_append, List.length_append, a1, b1, Nat.add_mul], fun i row hi => ?_, fun u hu => ?_, fun i j row d hi hj => ?_⟩
  · rcases Nat.lt_or_ge i rows.length with q | q
    · rw [List.getElem?_append_left q] at hi; exact a2 i row hi
    · rw [List.getElem?_append_right q] at hi; exact b2 _ row hi
  · rcases List.mem_append.1 hu with hu | hu
    · exact a3 u hu
    · exact b3 u hu
  · rcases Nat.lt_or_ge i rows.length with q | q
    · rw [List.getElem?_append_left q] at hi
      obtain ⟨u, hu, hr⟩ := a4 i j row d hi hj
      exact ⟨u, by rw [List.getElem?_append_left (List.getElem?_eq_some_iff.1 hu).1]; exact hu, hr⟩
    · rw [List.getElem?_append_right q] at hi
      obtain ⟨u, hu, hr⟩ := b4 _ j row d hi hj
      refine ⟨u, ?_, hr⟩
      have : rows.length * k ≤ i * k := Nat.mul_le_mul_right _ q
      rw [List.getElem?_append_right (by omega), a1, show i * k + j - rows.length * k = (i - rows.length) * k + j by rw [Nat.sub_mul]; omega]
      exact hu
theorem Rep.vals {S : Seal} {w : World} {k : Nat} {rows : List (List D)} {a : Option Addr} {n c : Nat} (h : Rep S w (.sl k rows) (.slice a n c)) (hk : 0 < k) (hn : 0 < rows.length) :
    ∃ ad vals, a = some ad ∧ n = rows.length ∧ RepRows S w k rows vals ∧ ∀ j v, vals[j]? = some v → w.cell? (ad.add j) = some v := by
  cases h with
  | sl0 _ => simp at hn
  | @sl _ _ b off c us c1 c2 c3 c4 c5 =>
    let vals := (List.range (rows.length * k)).map fun q => us (q / k) (q % k)
    have hdiv : ∀ i j, j < k → (i * k + j) / k = i ∧ (i * k + j) % k = j := by
      intro i j hj
      constructor
      · rw [Nat.add_comm, Nat.add_mul_div_right _ _ hk, Nat.div_eq_of_lt hj, Nat.zero_add]
      · rw [Nat.add_comm, Nat.add_mul_mod_self_right, Nat.mod_eq_of_lt hj]
    have hat : ∀ q, q < rows.length * k → ∃ (row : List D) (d : D), rows[q / k]? = some row ∧ row[q % k]? = some d := by
      intro q hq
      have h1 : q / k < rows.length := (Nat.div_lt_iff_lt_mul hk).2 hq
      have h2 := c3 _ _ (List.getElem?_eq_getElem h1)
      have h3 : q % k < (rows[q / k]).length := by rw [h2]; exact Nat.mod_lt _ hk
      exact ⟨_, _, List.getElem?_eq_getElem h1, List.getElem?_eq_getElem h3⟩
    refine ⟨_, vals, rfl, rfl, ⟨by simp [vals], c3, fun u hu => ?_, fun i j row d hi hj => ?_⟩, fun q v hq => ?_⟩
    · obtain ⟨q, hq, rfl⟩ := List.mem_map.1 hu
      obtain ⟨row, d, r1, r2⟩ := hat q (List.mem_range.1 hq)
      exact (c5 _ _ row d r1 r2).one
    · have hjk : j < k := by rw [← c3 i row hi]; exact (List.getElem?_eq_some_iff.1 hj).1
      have hik := (List.getElem?_eq_some_iff.1 hi).1
      have hlt : i * k + j < rows.length * k := by
        have : (i + 1) * k ≤ rows.length * k := Nat.mul_le_mul_right _ hik
        rw [Nat.add_mul, Nat.one_mul] at this; omega
      refine ⟨us i j, ?_, c5 i j row d hi hj⟩
      simp [vals, hlt, hdiv i j hjk]
    · have hlt : q < rows.length * k := by
        rcases Nat.lt_or_ge q (rows.length * k) with r | r
        · exact r
        · rw [List.getElem?_eq_none (by simpa [vals] using r)] at hq; cases hq
      have hv : us (q / k) (q % k) = v := by simpa [vals, hlt] using hq
      subst hv
      obtain ⟨row, d, r1, r2⟩ := hat q hlt
      have := (c4 _ _ row d r1 r2).2
      rw [Nat.add_assoc, show q / k * k + q % k = q by rw [Nat.mul_comm]; exact Nat.div_add_mod q k] at this
      rw [add_lit]; exact this
/-- a literal slice. -/
theorem Rel.lit {x : Cx} {g : Gh} {σ : St} {a : Act} {w : World} (h : Rel x g σ a w) (d e k : Nat) (rows : List (List D)) (vals : List Value) (hv : RepRows g.S w k rows vals) (hm : rows.length ≤ maxLen) :
    ∃ g', Rel x g' (σ.sc (pNot d) pAll) a (w.alloc (.cells vals.toArray e)) ∧ OwnR x.B g' (w.alloc (.cells vals.toArray e)) e k rows d (.slice (some ⟨w.heap.size, 0, none⟩) rows.length rows.length) ∧ ∀ b o, g'.S b o ↔ g.S b o ∨ (b = w.heap.size ∧ o < rows.length * k) := by
  obtain ⟨ev, hr⟩ := h.fresh (.inl rfl) vals.toArray e d (rows.length * k)
  refine ⟨_, hr, ⟨vals, ⟨hv.1, .inr ⟨w.heap.size, rows.length, vals.toArray, rfl, h.base, alloc_at _ _, Nat.le_refl _, hm, by simpa using hv.1, by simp [List.take_of_length_le, hv.1]⟩⟩, by simp [Value.ownBlock], hv.2.1, hv.2.2.1, (hv.mono ev.kp).2.2.2, fun b hb o => ?_⟩, fun _ _ => Iff.rfl⟩
  injection hb with hb
  subst hb
  exact ⟨fun q => by rcases q with q | ⟨_, q⟩; exact absurd (h.new _ _ q) (Nat.lt_irrefl _); exact q, fun q => .inr ⟨rfl, q⟩⟩
theorem OwnR.rows {B : Nat} {g : Gh} {w : World} {e k : Nat} {rows : List (List D)} {tok : Nat} {v : Value} (h : OwnR B g w e k rows tok v) : ∃ xs, RepRows g.S w k rows xs ∧ w.ownsRow B e k v rows.length xs := by
  obtain ⟨xs, h1, h3, h4, h5, h6, h7⟩ := h
  exact ⟨xs, ⟨h1.1, h4, h5, h6⟩, h1⟩
/-- nothing appended. -/
theorem run_append_zero {P : Program} (w : World) (t ty e : TypeId) (i : TypeInfo) (ht : P.underlying t = some (.slice e)) (hi : P.info? e = some i) (base : Option Addr) (n cap : Nat) (hn : n ≤ cap) (a : Option Addr) (c : Nat) :
    (Builtin.append_ #[t, t] ty #[.slice base n cap, .slice a 0 c]).run P w = .ok (.slice base n cap) w := by
  cases a <;> cases base <;> simp [Builtin.append_, run_underlying ht, sizeOf, typeInfo, hi, Builtin.lenOf, Builtin.firstCells, loadCells, loadCellsFrom, storeCells, hn]
/-- a nil slice may be the call's own. -/
theorem Rel.nilTok {x : Cx} {g : Gh} {σ : St} {a : Act} {w : World} (h : Rel x g σ a w) (d e k : Nat) :
    ∃ g', Kp g.S g'.S w w ∧ Rel x g' (σ.sc (pNot d) pAll) a w ∧ OwnR x.B g' w e k [] d (.slice none 0 0) := by
  have ev : Ev (pNot d) pAll g ⟨g.β, fun t => if t = d then none else g.τ t, g.S⟩ w w := by
    refine ⟨Kp.refl _ _, fun t ht => ⟨?_, fun b _ => ⟨rfl, fun _ => Iff.rfl⟩⟩, fun i _ => rfl⟩
    simp only [pNot, bne_iff_ne, ne_eq] at ht
    simp [ht]
  refine ⟨⟨g.β, fun t => if t = d then none else g.τ t, g.S⟩, Kp.refl _ _, h.ev ev (Below.refl _ _) (fun i _ hs => ⟨rfl, ?_, fun t q => ?_⟩) (fun _ _ _ => Iff.rfl) h.new (fun i j b hi hj => ?_) (fun i b hi => ?_), [], ⟨by simp, .inl ⟨rfl, rfl⟩⟩, by simp [Value.ownBlock], by simp, by simp, by simp, fun b hb => by cases hb⟩
  · obtain ⟨row, hr⟩ := Option.isSome_iff_exists.1 hs
    exact (h.bx i row hr).2.1
  · simp only at q
    split at q
    · cases q
    · exact h.bt i t hs q
  · simp only at hi hj
    split at hi
    · cases hi
    · split at hj
      · cases hj
      · exact h.tinj i j b hi hj
  · simp only at hi
    split at hi
    · cases hi
    · exact h.tlt i b hi
set_option maxHeartbeats 1000000 in
/-- append. -/
theorem Rel.append {x : Cx} {g : Gh} {σ : St} {a : Act} {w : World} (h : Rel x g σ a w) {t ty e k by_ : Nat} {z : List D} (hk : tk x.P t = .sl e k by_ z) {rows rows' : List (List D)} {tok : Nat} {v u : Value}
    (hv : OwnR x.B g w e k rows tok v) (hu : Rep g.S w (.sl k rows') u) (hroom : (rows.length + rows'.length) * by_ ≤ 140737488355328) (hmax : rows.length + rows'.length ≤ maxLen) :
    ∃ v' w' g', (Builtin.append_ #[t, t] ty #[v, u]).run x.P w = .ok v' w' ∧ Rel x g' (σ.sc (pNot tok) pAll) a w' ∧ OwnR x.B g' w' e k (rows ++ rows') tok v' := by
  obtain ⟨ht, i, zv, hi, hz, hsz, hby, hzs, hk0, hz1, -, -⟩ := tk_sl hk
  subst hsz
  obtain ⟨ua, uc, rfl, uc1, uc2⟩ := hu.sl_shape
  have hscRel : ∀ g', Ev pAll pAll g g' w w → True := fun _ _ => trivial
  rcases Nat.eq_zero_or_pos rows'.length with hm | hm
  · -- nothing to append
    have hr0 : rows' = [] := List.eq_nil_of_length_eq_zero hm
    subst hr0
    have hsame : Rel x g (σ.sc (pNot tok) pAll) a w := by
      have ev : Ev (pNot tok) pAll g g w w := ⟨Kp.refl _ _, fun t _ => ⟨rfl, fun b _ => ⟨rfl, fun _ => Iff.rfl⟩⟩, fun i _ => rfl⟩
      exact h.ev ev (Below.refl _ _) (fun i _ hs => ⟨rfl, by obtain ⟨row, hr⟩ := Option.isSome_iff_exists.1 hs; exact (h.bx i row hr).2.1, fun t => h.bt i t hs⟩) (fun _ _ _ => Iff.rfl) h.new h.tinj h.tlt
    obtain ⟨a', c', rfl, c1, -⟩ := (OwnR.rep hv).sl_shape
    refine ⟨_, w, g, run_append_zero w t ty e i ht hi a' rows.length c' c1 ua uc, hsame, ?_⟩
    rw [List.append_nil]; exact hv
  · obtain ⟨ad, news, rfl, -, hnews, hcells⟩ := hu.vals hk0 hm
    obtain ⟨xs, h1, h3, h4, h5, h6, h7⟩ := hv
    have hrows : RepRows g.S w i.size rows xs := ⟨h1.1, h4, h5, h6⟩
    have hall := hrows.append hnews
    have hsmall : rows.length + rows'.length ≤ 9223372036854775807 := by simp only [maxLen] at hmax; omega
    -- a new block
    have grown : ∀ (old : Nat), old < rows.length + rows'.length → ∃ g',
        Rel x g' (σ.sc (pNot tok) pAll) a (w.drew.alloc (.cells (xs.toArray ++ news.toArray ++ Builtin.zeroCells zv.cells (grownCap w (rows.length + rows'.length) old e - (rows.length + rows'.length))) e)) ∧
        OwnR x.B g' (w.drew.alloc (.cells (xs.toArray ++ news.toArray ++ Builtin.zeroCells zv.cells (grownCap w (rows.length + rows'.length) old e - (rows.length + rows'.length))) e)) e i.size (rows ++ rows') tok
          (.slice (some ⟨w.heap.size, 0, none⟩) (rows.length + rows'.length) (grownCap w (rows.length + rows'.length) old e)) := by
      intro old ho
      have hge := grownCap_ge w (rows.length + rows'.length) old e
      have hcm : grownCap w (rows.length + rows'.length) old e ≤ maxLen := grownCap_le_maxLen w (rows.length + rows'.length) old e hmax
      obtain ⟨ev, hr⟩ := h.fresh (.inr rfl) (xs.toArray ++ news.toArray ++ Builtin.zeroCells zv.cells (grownCap w (rows.length + rows'.length) old e - (rows.length + rows'.length))) e tok ((rows ++ rows').length * i.size)
      have hall' := hall.mono ev.kp
      have hlen : (xs ++ news).length = (rows.length + rows'.length) * i.size := by rw [hall.1, List.length_append]
      refine ⟨_, hr, xs ++ news, ⟨hall.1, .inr ⟨w.heap.size, _, _, by rw [List.length_append], h.base, heap_alloc_new w.drew _, by rw [List.length_append]; exact hge, hcm, ?_, ?_⟩⟩, by simp [Value.ownBlock], hall'.2.1, hall'.2.2.1, hall'.2.2.2, fun b hb o => ?_⟩
      · simp only [Array.size_append, List.size_toArray, size_zeroCells, hzs, h1.1, hnews.1, ← Nat.add_mul]
        congr 1
        omega
      · simp only [Array.toList_append, List.append_assoc]
        rw [← List.append_assoc, ← hall.1]
        exact List.take_left
      · injection hb with hb
        subst hb
        exact ⟨fun q => by rcases q with q | ⟨_, q⟩; exact absurd (h.new _ _ q) (Nat.lt_irrefl _); exact q, fun q => .inr ⟨rfl, q⟩⟩
    rcases h1.2 with ⟨rfl, hn0⟩ | ⟨b, cap, cur, rfl, hbb, hh, hnc, hcm, hcs, htake⟩
    · have hx : xs = [] := List.eq_nil_of_length_eq_zero (by rw [h1.1, hn0]; simp)
      have hr0 : rows = [] := List.eq_nil_of_length_eq_zero hn0
      subst hx hr0
      simp only [List.length_nil, Nat.zero_add] at *
      have hr := run_append_nil (P := x.P) w t ty e i zv ht hi hz ad rows'.length uc news hnews.1 hcells hm (by omega) (by rw [hby]; omega)
      obtain ⟨g', q1, q2⟩ := grown 0 hm
      rw [Array.empty_append] at q1 q2
      exact ⟨_, _, g', hr, q1, q2⟩
    · by_cases hfit : rows.length + rows'.length ≤ cap
      · have hfit' : rows.length * i.size + news.length ≤ cur.size := by rw [hnews.1, hcs, ← Nat.add_mul]; exact Nat.mul_le_mul_right _ hfit
        have hr := run_append_room (P := x.P) w t ty e i ht hi b rows.length cap cur hh ad rows'.length uc news hnews.1 hcells hnews.2.2.1 hfit hfit'
        generalize hnew : (cur.toList.take (rows.length * i.size) ++ news ++ cur.toList.drop (rows.length * i.size + news.length)).toArray = cs at hr
        have htok : g.τ tok = some b := by rw [← h3]; rfl
        have hS := h7 b rfl
        have hcell : ∀ o, o < rows.length * i.size → (w.setRow b cs).cell? ⟨b, o, none⟩ = w.cell? ⟨b, o, none⟩ := by
          intro o ho
          rw [cell_setRow_same w b o cur cs e (0, 0) hh]
          have : w.cell? ⟨b, o, none⟩ = cur[o]? := by simp only [World.cell?, hh]; rw [if_neg (by simp)]
          rw [this, ← hnew]
          have hl : (cur.toList.take (rows.length * i.size)).length = rows.length * i.size := by have hcl : cur.toList.length = cur.size := Array.length_toList; rw [List.length_take, hcl]; omega
          rw [List.getElem?_toArray, List.append_assoc, List.getElem?_append_left (by rw [hl]; exact ho), List.getElem?_take_of_lt ho, Array.getElem?_toList]
        have ev : Ev (pNot tok) pAll g ⟨g.β, g.τ, fun c o => g.S c o ∨ (c = b ∧ o < (rows ++ rows').length * i.size)⟩ w (w.setRow b cs) := by
          refine ⟨⟨fun _ _ q => .inl q, fun c o q => ?_⟩, fun t' ht' => ⟨rfl, fun c hc => ?_⟩, fun i _ => rfl⟩
          · by_cases e' : c = b
            · subst e'; exact hcell o ((hS o).1 q)
            · exact cell_setRow_other _ _ _ _ e'
          · simp only [pNot, bne_iff_ne, ne_eq] at ht'
            have hne : c ≠ b := fun e' => ht' (h.tinj t' tok b (e' ▸ hc) htok)
            exact ⟨setRow_other _ _ _ _ hne, fun o => ⟨fun q => q.elim id (fun q => absurd q.1 hne), .inl⟩⟩
        have hall' := hall.mono ev.kp
        refine ⟨_, _, _, hr, h.ev ev ⟨rfl, rfl, rfl, by simp, fun c hc => setRow_other _ _ _ _ (by omega)⟩ (fun i' _ hs => ?_) (fun c o hc => ⟨fun q => q.elim id (fun q => by omega), .inl⟩) (fun c o q => ?_) h.tinj (fun i' c q => by simpa using h.tlt i' c q), xs ++ news, ⟨hall.1, .inr ⟨b, cap, cs, by rw [List.length_append], hbb, setRow_heap w b cur _ e _ hh, by rw [List.length_append]; exact hfit, hcm, ?_, ?_⟩⟩, by rw [htok]; rfl, hall'.2.1, hall'.2.2.1, hall'.2.2.2, fun c hc o => ?_⟩
        · obtain ⟨row, hrw⟩ := Option.isSome_iff_exists.1 hs
          obtain ⟨b1, b2, -⟩ := h.bx i' row hrw
          have hne : g.β i' ≠ b := fun e' => h.bt i' tok hs (by rw [htok, e'])
          exact ⟨setRow_other _ _ _ _ hne, fun o q => q.elim (b2 o) (fun q => hne q.1), fun t' => h.bt i' t' hs⟩
        · rw [setRow_size]
          rcases q with q | ⟨q, _⟩
          · exact h.new c o q
          · subst q; exact (h.tlt tok _ htok).2
        · rw [← hnew]
          simp only [List.size_toArray, List.length_append, List.length_take, List.length_drop, Array.length_toList]
          omega
        · rw [← hnew, htake, ← hall.1]
          exact List.take_left
        · injection hc with hc
          subst hc
          refine ⟨fun q => q.elim (fun q => ?_) (fun q => q.2), fun q => .inr ⟨rfl, q⟩⟩
          have := (hS o).1 q
          have h' : rows.length * i.size ≤ (rows ++ rows').length * i.size := Nat.mul_le_mul_right _ (by simp)
          omega
      · have holds : ∀ j u, xs[j]? = some u → w.cell? ((⟨b, 0, none⟩ : Addr).add j) = some u := World.ownsRow.cells h1 (g := b) rfl
        have hr := run_append_grow (P := x.P) w t ty e i zv ht hi hz ⟨b, 0, none⟩ rows.length cap xs h1.1 holds ad rows'.length uc news hnews.1 hcells (by omega) (by omega) (growslice_fits (by omega) (by rw [hby]; exact hroom))
        obtain ⟨g', q1, q2⟩ := grown cap (by omega)
        exact ⟨_, _, g', hr, q1, q2⟩
end Go.Proofs.Ytokjkmibnjfkaaa
