import Derived.Test.YtngobmjdbjlkcaaGf
/- The second engine, seventh part: append. -/
namespace Go.Proofs.Ytngobmjdbjlkcaa
set_option linter.unusedVariables false
set_option linter.unusedSimpArgs false
open Go.RowKit
/-- values of rows to be laid down: data that nobody owns, or children of a block. -/
def Src (g : Gh) (w : World) (k : Nat) (rows : List (List D)) (vals : List Value) (src : Option Nat) : Prop :=
  vals.length = rows.length * k ∧ (∀ (i : Nat) (row : List D), rows[i]? = some row → row.length = k) ∧
  ∀ (i j : Nat) (row : List D) (d : D), rows[i]? = some row → row[j]? = some d → ∃ u, vals[i * k + j]? = some u ∧ (Rep g.S g.up w none d u ∨ ∃ b, src = some b ∧ Rep g.S g.up w (some (.cell b (i * k + j))) d u)
theorem Src.one {g : Gh} {w : World} {k : Nat} {rows : List (List D)} {vals : List Value} {src : Option Nat} (h : Src g w k rows vals src) (hk : 0 < k) : ∀ u ∈ vals, u.oneCell' = true := by
  intro u hu
  obtain ⟨q, hq, rfl⟩ := List.getElem_of_mem hu
  obtain ⟨h1, h2, h3⟩ := h
  rw [h1] at hq
  have hi : q / k < rows.length := (Nat.div_lt_iff_lt_mul hk).2 hq
  have hr := List.getElem?_eq_getElem hi
  have hj : q % k < (rows[q / k]).length := by rw [h2 _ _ hr]; exact Nat.mod_lt _ hk
  obtain ⟨v, hv, hR⟩ := h3 _ _ _ _ hr (List.getElem?_eq_getElem hj)
  have e : q / k * k + q % k = q := by rw [Nat.mul_comm]; exact Nat.div_add_mod q k
  rw [e, List.getElem?_eq_getElem (by rw [h1]; exact hq)] at hv
  injection hv with hv
  rw [hv]
  rcases hR with r | ⟨_, _, r⟩ <;> exact r.one
theorem Rep.vals {g : Gh} {w : World} {p : Option Pos} {k : Nat} {rows : List (List D)} {a : Option Addr} {n c : Nat} (h : Rep g.S g.up w p (.sl k rows) (.slice a n c)) (hk : 0 < k) (hn : 0 < rows.length) :
    ∃ ad vals, a = some ad ∧ n = rows.length ∧ Src g w k rows vals none ∧ ∀ j v, vals[j]? = some v → w.cell? (ad.add j) = some v := by
  cases h with
  | sl0 _ => simp at hn
  | @sl _ _ _ b off c us c1 c2 c3 c4 c5 =>
    let vals := (List.range (rows.length * k)).map fun q => us (q / k) (q % k)
    have hdiv : ∀ i j, j < k → (i * k + j) / k = i ∧ (i * k + j) % k = j := by
      intro i j hj
      constructor
      · rw [Nat.add_comm, Nat.add_mul_div_right _ _ hk, Nat.div_eq_of_lt hj, Nat.zero_add]
      · rw [Nat.add_comm, Nat.add_mul_mod_self_right, Nat.mod_eq_of_lt hj]
    refine ⟨_, vals, rfl, rfl, ⟨by simp [vals], c3, fun i j row d hi hj => ?_⟩, fun q v hq => ?_⟩
    · have hjk : j < k := by rw [← c3 i row hi]; exact (List.getElem?_eq_some_iff.1 hj).1
      have hik := (List.getElem?_eq_some_iff.1 hi).1
      have hlt : i * k + j < rows.length * k := by
        have : (i + 1) * k ≤ rows.length * k := Nat.mul_le_mul_right _ hik
        rw [Nat.add_mul, Nat.one_mul] at this; omega
      refine ⟨us i j, ?_, .inl (c5 i j row d hi hj)⟩
      simp [vals, hlt, hdiv i j hjk]
    · have hlt : q < rows.length * k := by
        rcases Nat.lt_or_ge q (rows.length * k) with r | r
        · exact r
        · rw [List.getElem?_eq_none (by simpa [vals] using r)] at hq; cases hq
      have hv : us (q / k) (q % k) = v := by simpa [vals, hlt] using hq
      subst hv
      have h1 : q / k < rows.length := (Nat.div_lt_iff_lt_mul hk).2 hlt
      have hr := List.getElem?_eq_getElem h1
      have h3 : q % k < (rows[q / k]).length := by rw [c3 _ _ hr]; exact Nat.mod_lt _ hk
      have := (c4 _ _ _ _ hr (List.getElem?_eq_getElem h3)).2
      rw [Nat.add_assoc, show q / k * k + q % k = q by rw [Nat.mul_comm]; exact Nat.div_add_mod q k] at this
      rw [add_lit]; exact this
theorem Rep.osl_w {S : Nat → Prop} {up : Nat → Option Pos} {w : World} {p : Option Pos} {e k : Nat} {rows : List (List D)} {v : Value} (h : Rep S up w p (.osl e k rows) v) : ∀ (i : Nat) (row : List D), rows[i]? = some row → row.length = k := by
  cases h with
  | osl0 => intro i row hi; simp at hi
  | osl cs q1 q2 q3 q4 q5 q6 q7 => exact q6
theorem Rep.ovals {g : Gh} {w : World} {p : Pos} {e k : Nat} {rows : List (List D)} {b n c : Nat} (h : Rep g.S g.up w (some p) (.osl e k rows) (.slice (some ⟨b, 0, none⟩) n c)) (hn : n = rows.length) :
    g.up b = some p ∧ ∃ vals, Src g w k rows vals (some b) ∧ ∀ j v, vals[j]? = some v → w.cell? ((⟨b, 0, none⟩ : Addr).add j) = some v := by
  subst hn
  generalize hv : Value.slice (some ⟨b, 0, none⟩) rows.length c = v at h
  cases h with
  | osl0 => cases hv
  | @osl _ _ _ _ b' c' cs q1 q2 q3 q4 q5 q6 q7 =>
    injection hv with hv _ hc
    injection hv with hv; injection hv with hv
    subst hv
    have hle : rows.length * k ≤ cs.size := by rw [q5]; exact Nat.mul_le_mul_right _ q3
    refine ⟨q1, cs.toList.take (rows.length * k), ⟨by have hcl : cs.toList.length = cs.size := Array.length_toList; rw [List.length_take]; omega, q6, fun i j row d hi hj => ?_⟩, fun j v hj => ?_⟩
    · have hjk : j < k := by rw [← q6 i row hi]; exact (List.getElem?_eq_some_iff.1 hj).1
      have hik := (List.getElem?_eq_some_iff.1 hi).1
      have hlt : i * k + j < rows.length * k := by
        have : (i + 1) * k ≤ rows.length * k := Nat.mul_le_mul_right _ hik
        rw [Nat.add_mul, Nat.one_mul] at this; omega
      refine ⟨cs.getD (i * k + j) undef, ?_, .inr ⟨b, rfl, q7 i j row d hi hj⟩⟩
      rw [List.getElem?_take_of_lt hlt, Array.getElem?_toList]
      exact agetD_of (by omega)
    · have hlt : j < rows.length * k := by
        have := (List.getElem?_eq_some_iff.1 hj).1
        rw [List.length_take] at this; omega
      rw [List.getElem?_take_of_lt hlt, Array.getElem?_toList] at hj
      rw [add_lit]
      simp only [World.cell?, q2, Nat.zero_add]
      rw [if_neg (by simp)]; exact hj
/-- an array that was grown, in its place or at a new one. -/
theorem Rel.regrow {x : Cx} {g : Gh} {σ : St} {a : Act} {w w' : World} (h : Rel x g σ a w) {id e k n : Nat} {rows rows' : List (List D)} {vals : List Value} {src : Option Nat} {ids : List Nat} (hb : σ.b id = some (.arr e k rows)) (hn : n ≤ rows.length) (hid : id ∉ ids) (nid : Nat) (hnP : isP nid = false)
    (hsrc : ∀ b, src = some b → ∃ m ∈ ids, g.up b = some (.root m)) (hS : Src g w k rows' vals src) (bn : Nat) (cs : Array Value) (c : Nat) (hbn : bn = w.heap.size ∨ g.β id = some bn) (hw : ∀ b, b < w.heap.size → g.β id ≠ some b → w'.heap[b]? = w.heap[b]?) (hbel : Below 0 w w')
    (hlt : bn < w'.heap.size) (hh : w'.heap[bn]? = some (.cells cs e (0, 0))) (h1 : n + rows'.length ≤ c) (h2 : c ≤ maxLen) (h3 : cs.size = c * k)
    (hold : ∀ b cs0, g.β id = some b → w.heap[b]? = some (.cells cs0 e (0, 0)) → ∀ j, j < n * k → cs.getD j undef = cs0.getD j undef) (hnew : ∀ j u, vals[j]? = some u → cs.getD (n * k + j) undef = u) :
    ∃ g', Rel x g' ((σ.sc (pOut (nid :: id :: ids)) (pOut (nid :: id :: ids))).setB nid (.arr e k (rows.take n ++ rows'))) a w' ∧ RC g' w' none (.bs nid k (n + rows'.length)) (.slice (some ⟨bn, 0, none⟩) (n + rows'.length) c) := by
  have hR0 : Rep g.S g.up w (some (.root id)) (.osl e k rows) (.slice ((g.β id).map fun b => ⟨b, 0, none⟩) rows.length (g.κ id)) := h.ob id _ hb
  have hup : ∀ b, g.β id = some b → g.up b = some (.root id) := fun b q => by
    rw [q, Option.map_some] at hR0
    exact (Rep.ovals hR0 rfl).1
  have hsne : ∀ b, src = some b → g.β id ≠ some b := fun b q r => by
    obtain ⟨m, hm, e'⟩ := hsrc b q
    rw [hup b r] at e'; injection e' with e'; injection e' with e'
    exact hid (e' ▸ hm)
  let π : Pos → Pos := fun p => match p with
    | .cell b o => if src = some b then .cell bn (n * k + o) else if g.β id = some b then .cell bn o else .cell b o
    | p => p
  have ev : Ev (fun p => ∀ m ∈ nid :: id :: ids, p ≠ .root m) π (pOut (nid :: id :: ids)) (pOut (nid :: id :: ids)) g ⟨fun i => if i = nid then some bn else g.β i, fun i => if i = nid then c else g.κ i, fun b => if b = bn then some (.root nid) else (g.up b).map π, g.S⟩ w w' := by
    refine ⟨⟨fun b hs => ⟨hs, hw b (h.new b hs) (fun q => (h.own b _ (hup b q)).2.2 hs)⟩, fun b p hp ho => ?_, fun b p o hp ho => ⟨fun m _ => by simp, ?_⟩⟩, fun i hi => ?_, fun i hi => ⟨hi, fun m hm e' => ?_, rfl⟩⟩
    · have hbl := (h.own b p hp).1
      have hne : g.β id ≠ some b := fun q => by
        have := hup b q
        rw [hp] at this; injection this with this
        exact ho id (by simp) this
      refine ⟨?_, hw b hbl hne⟩
      show (if b = bn then _ else _) = _
      rw [if_neg (fun q => ?_), hp]; rfl
      rcases hbn with r | r
      · omega
      · exact hne (q ▸ r)
    · show (if src = some b then _ else if g.β id = some b then _ else _) = _
      rw [if_neg (fun q => ?_), if_neg (fun q => ?_)]
      · have := hup b q
        rw [hp] at this; injection this with this
        exact ho id (by simp) this
      · obtain ⟨m, hm, e'⟩ := hsrc b q
        rw [hp] at e'; injection e' with e'
        exact ho m (List.mem_cons_of_mem _ (List.mem_cons_of_mem _ hm)) e'
    · have := pOut_spec hi nid (by simp)
      exact ⟨by show (if i = nid then _ else _) = _; rw [if_neg this], by show (if i = nid then _ else _) = _; rw [if_neg this]⟩
    · injection e' with e'; exact pOut_spec hi m hm e'
  have hR := h.ev ev hbel (fun b hb' hg => hw b (by have := h.bel.size; omega) (fun q => hg ((h.own b _ (hup b q)).2.1 hb'))) (fun b _ hs => .inl hs) (fun b hs => by have := h.new b hs; have := hbel.size; omega) (fun b p hp => by
    simp only at hp
    split at hp
    · rename_i q
      subst q
      refine ⟨hlt, fun q => ?_, fun q => ?_⟩
      · rcases hbn with r | r
        · have := h.bel.size; omega
        · exact (h.own b _ (hup b r)).2.1 q
      · rcases hbn with r | r
        · have := h.new _ q; omega
        · exact (h.own b _ (hup b r)).2.2 q
    · obtain ⟨p', hp', -⟩ := Option.map_eq_some_iff.1 hp
      obtain ⟨o1, o2, o3⟩ := h.own b p' hp'
      exact ⟨by have := hbel.size; omega, o2, o3⟩)
  have hln : (rows.take n).length = n := by rw [List.length_take]; omega
  obtain ⟨s1, s2, s3⟩ := hS
  refine ⟨_, hR.setB (id := nid) (o := .arr e k (rows.take n ++ rows')) ?_ (fun q => by rw [hnP] at q; cases q), ?_⟩
  · show Rep _ _ _ _ _ _
    simp only [if_true, Option.map_some]
    refine .osl cs (by simp) hh (by rw [List.length_append, hln]; exact h1) h2 h3 (fun i row hi => ?_) (fun i j row y hi hj => ?_)
    · rcases Nat.lt_or_ge i n with q | q
      · rw [List.getElem?_append_left (by omega), List.getElem?_take_of_lt q] at hi
        exact hR0.osl_w i row hi
      · rw [List.getElem?_append_right (by omega)] at hi; exact s2 _ row hi
    · rcases Nat.lt_or_ge i n with q | q
      · rw [List.getElem?_append_left (by omega), List.getElem?_take_of_lt q] at hi
        generalize hvv : Value.slice ((g.β id).map fun b => (⟨b, 0, none⟩ : Addr)) rows.length (g.κ id) = vv at hR0
        cases hR0 with
        | osl0 => simp at hi
        | @osl _ _ _ _ bo co cs0 q1 q2 q3 q4 q5 q6 q7 =>
          have hβ : g.β id = some bo := by
            injection hvv with hvv _ _
            cases hq : g.β id with
            | none => rw [hq] at hvv; cases hvv
            | some b' => rw [hq] at hvv; injection hvv with hvv; injection hvv with hvv; rw [hvv]
          have hjk : j < k := by rw [← q6 i row hi]; exact (List.getElem?_eq_some_iff.1 hj).1
          have hlt' : i * k + j < n * k := by
            have : (i + 1) * k ≤ n * k := Nat.mul_le_mul_right _ q
            rw [Nat.add_mul, Nat.one_mul] at this; omega
          have := Rep.move ev.toMv (q7 i j row y hi hj) (fun z hz => by injection hz with hz; subst hz; intro m _; simp)
          simp only [Option.map_some, π, if_neg (fun r => hsne bo r hβ), if_pos hβ] at this
          rw [hold bo cs0 hβ q2 _ hlt']; exact this
      · rw [List.getElem?_append_right (by omega), hln] at hi
        obtain ⟨u, hu, hr⟩ := s3 _ j row y hi hj
        have e1 : n * k + ((i - n) * k + j) = i * k + j := by
          rw [← Nat.add_assoc, ← Nat.add_mul]; congr 2; omega
        have := hnew _ u hu
        rw [e1] at this
        rw [this]
        rcases hr with hr | ⟨b, hb', hr⟩
        · exact (Rep.move ev.toMv hr (fun z hz => by cases hz)).any _
        · have := Rep.move ev.toMv hr (fun z hz => by injection hz with hz; subst hz; intro m _; simp)
          simp only [Option.map_some, π, if_pos hb', e1] at this
          exact this
  · exact ⟨by simp, by simpa using h1, by simpa using h2, fun q => by simp at q⟩
end Go.Proofs.Ytngobmjdbjlkcaa
