import Derived.Test.YtngobmjdbjlkcaaGe
/- The second engine, sixth part: arrays. -/
namespace Go.Proofs.Ytngobmjdbjlkcaa
set_option linter.unusedVariables false
set_option linter.unusedSimpArgs false
open Go.RowKit
theorem Rep.osl_take {S : Nat → Prop} {up : Nat → Option Pos} {w : World} {p : Option Pos} {e k c : Nat} {rows : List (List D)} {a : Option Addr} (h : Rep S up w p (.osl e k rows) (.slice a rows.length c)) (n : Nat) (hn : n ≤ rows.length) : Rep S up w p (.osl e k (rows.take n)) (.slice a n c) := by
  have hl : (rows.take n).length = n := by rw [List.length_take]; omega
  cases h with
  | osl0 =>
    have : n = 0 := by simpa using hn
    subst this
    exact .osl0
  | osl cs h1 h2 h3 h4 h5 h6 h7 =>
    have key := Rep.osl (S := S) (rows := rows.take n) (c := c) cs h1 h2 (by omega) h4 h5 (fun i row hi => ?_) (fun i j row d hi hj => ?_)
    · rw [hl] at key; exact key
    · rw [List.getElem?_take] at hi
      split at hi
      · exact h6 i row hi
      · cases hi
    · rw [List.getElem?_take] at hi
      split at hi
      · exact h7 i j row d hi hj
      · cases hi
/-- data of an array's cell; objects that are taken along. -/
def deepB : D → Bool
  | .bx _ _ => false
  | .el _ _ _ _ => false
  | .bs _ _ _ => false
  | .ag _ => false
  | .un => false
  | .tup _ => false
  | .mb _ _ => false
  | _ => true
def fdC (σ : St) : D → Option (Prop × D)
  | .bs id k n => match σ.b id with
    | some (.arr e k' rows) => some (k' = k ∧ n ≤ rows.length, .osl e k (rows.take n))
    | _ => none
  | .bx id off => match σ.b id with
    | some (.box row) => some (off = 0 ∧ row.all deepB = true, .opt row)
    | _ => none
  | .el _ _ _ _ => none
  | .ag _ => none
  | .un => none
  | .tup _ => none
  | .mb _ _ => none
  | d => some (True, d)
def idC : D → Option Nat
  | .bs id _ _ => some id
  | .bx id _ => some id
  | _ => none
theorem RC.deep {g : Gh} {w : World} {p : Option Pos} {d : D} {v : Value} (h : RC g w p d v) (hd : deepB d = true) : Rep g.S g.up w p d v := by
  cases d <;> first | exact h | cases hd
theorem fdC_ok {x : Cx} {g : Gh} {σ : St} {a : Act} {w : World} (hr : Rel x g σ a w) {y d : D} {ob : Prop} {u : Value} {p : Option Pos} (h : fdC σ y = some (ob, d)) (ho : ob) (hu : RC g w p y u) :
    (idC y = none ∧ Rep g.S g.up w p d u) ∨ ∃ id, idC y = some id ∧ Rep g.S g.up w (some (.root id)) d u := by
  cases y with
  | bs id k n =>
    right
    simp only [fdC] at h
    split at h
    · rename_i e k' rows hb
      injection h with h; injection h with e1 e2
      subst e1 e2
      obtain ⟨rfl, hn⟩ := ho
      obtain ⟨rfl, -⟩ := hu
      exact ⟨id, rfl, Rep.osl_take (hr.ob id _ hb) n hn⟩
    · cases h
  | bx id off =>
    right
    simp only [fdC] at h
    split at h
    · rename_i row hb
      injection h with h; injection h with e1 e2
      subst e1 e2
      obtain ⟨rfl, hd⟩ := ho
      obtain ⟨b, hb', rfl⟩ := hu
      obtain ⟨b0, cs, ty, b1, b2, b3, b4, b5⟩ := hr.ob id _ hb
      rw [b1] at hb'; injection hb' with hb'; subst hb'
      exact ⟨id, rfl, .opt cs b2 b3 b4 fun j d hj => (b5 j d hj).deep (List.all_eq_true.1 hd d (List.mem_of_getElem? hj))⟩
    · cases h
  | el _ _ _ _ => cases h
  | ag _ => cases h
  | un => cases h
  | tup _ => cases h
  | mb _ _ => cases h
  | _ => (simp only [fdC] at h; injection h with h; injection h with e1 e2; subst e2; exact .inl ⟨rfl, hu⟩)
/-- a new array in place of the last one of this name; objects ids are taken along, to the places tgt. -/
theorem Rel.newArr {x : Cx} {g : Gh} {σ : St} {a : Act} {w w1 : World} (h : Rel x g σ a w) (hw : w1 = w ∨ w1 = w.drew) (d e k : Nat) (rows : List (List D)) (cs : Array Value) (c : Nat) (ids : List Nat) (tgt : Nat → Nat) (h1 : rows.length ≤ c) (h2 : c ≤ maxLen) (h3 : cs.size = c * k) (hdP : isP d = false)
    (h4 : ∀ (i : Nat) (row : List D), rows[i]? = some row → row.length = k)
    (h5 : ∀ (i j : Nat) (row : List D) (y : D), rows[i]? = some row → row[j]? = some y → Rep g.S g.up w none y (cs.getD (i * k + j) undef) ∨ ∃ id ∈ ids, tgt id = i * k + j ∧ Rep g.S g.up w (some (.root id)) y (cs.getD (i * k + j) undef)) :
    ∃ g', Rel x g' ((σ.sc (pOut (d :: ids)) (pOut (d :: ids))).setB d (.arr e k rows)) a (w1.alloc (.cells cs e)) ∧ RC g' (w1.alloc (.cells cs e)) none (.bs d k rows.length) (.slice (some ⟨w.heap.size, 0, none⟩) rows.length c) := by
  have hs1 : w1.heap = w.heap := by rcases hw with rfl | rfl <;> rfl
  have hb1 : Below 0 w w1 := by rcases hw with rfl | rfl; exact Below.refl _ _; exact (Below.refl _ _).drew
  generalize hbn : w.heap.size = bn
  have hold : ∀ b, b < bn → (w1.alloc (.cells cs e)).heap[b]? = w.heap[b]? := fun b hb => by rw [Below.heap_alloc _ _ _ (by rw [hs1]; omega), hs1]
  let π : Pos → Pos := fun p => match p with
    | .root id => if id ∈ ids then .cell bn (tgt id) else .root id
    | p => p
  have ev : Ev (fun _ => True) π (pOut (d :: ids)) (pOut (d :: ids)) g ⟨fun i => if i = d then some bn else g.β i, fun i => if i = d then c else g.κ i, fun b => if b = bn then some (.root d) else (g.up b).map π, g.S⟩ w (w1.alloc (.cells cs e)) := by
    refine ⟨⟨fun b hb => ⟨hb, hold b (by have := h.new b hb; omega)⟩, fun b p hb _ => ?_, fun b p o _ _ => ⟨trivial, rfl⟩⟩, fun i hi => ?_, fun i hi => ⟨hi, trivial, ?_⟩⟩
    · have hlt := (h.own b p hb).1
      refine ⟨?_, hold b (by omega)⟩
      show (if b = bn then _ else _) = _
      rw [if_neg (by omega), hb]; rfl
    · have := pOut_spec hi d (by simp)
      exact ⟨by show (if i = d then _ else _) = _; rw [if_neg this], by show (if i = d then _ else _) = _; rw [if_neg this]⟩
    · show (if i ∈ ids then _ else _) = _
      rw [if_neg (fun q => pOut_spec hi i (List.mem_cons_of_mem _ q) rfl)]
  have hR := h.ev ev (hb1.trans ((Below.refl _ _).alloc (Nat.zero_le _) _)) (fun b hb hg => hold b (by have := h.bel.size; omega)) (fun b _ hs => .inl hs) (fun b hs => by rw [alloc_size, hs1]; have := h.new b hs; omega) (fun b p hb => by
    rw [alloc_size, hs1]
    simp only at hb
    split at hb
    · rename_i q
      subst q
      exact ⟨by omega, fun q => by have := h.bel.size; omega, fun q => by have := h.new _ q; omega⟩
    · obtain ⟨p', hp', -⟩ := Option.map_eq_some_iff.1 hb
      obtain ⟨o1, o2, o3⟩ := h.own b p' hp'
      exact ⟨by omega, o2, o3⟩)
  refine ⟨_, hR.setB (id := d) (o := .arr e k rows) ?_ (fun q => by rw [hdP] at q; cases q), ?_⟩
  · show Rep _ _ _ _ _ _
    simp only [if_true, Option.map_some]
    refine .osl cs (by simp) (by rw [← hbn, ← hs1]; exact alloc_at _ _) h1 h2 h3 h4 fun i j row y hi hj => ?_
    rcases h5 i j row y hi hj with q | ⟨id, hid, ht, q⟩
    · have := Rep.move ev.toMv q (fun z hz => by cases hz)
      exact this.any _
    · have := Rep.move ev.toMv q (fun z hz => trivial)
      simp only [Option.map_some, π, if_pos hid, ht] at this
      exact this
  · exact ⟨by simp, by simpa using h1, by simpa using h2, fun q => by simp at q⟩
/-- an array's row is written; objects ids are taken along. -/
theorem Rel.storeArr {x : Cx} {g : Gh} {σ : St} {a : Act} {w : World} (h : Rel x g σ a w) (id e k i off : Nat) (rows : List (List D)) (xs : List D) (hb : σ.b id = some (.arr e k rows)) (us : List Value) (ids : List Nat) (tgt : Nat → Nat) (hi : i < rows.length) (hl : off + xs.length ≤ k) (hid : id ∉ ids) (hul : us.length = xs.length)
    (h5 : ∀ (j : Nat) (y : D) (u : Value), xs[j]? = some y → us[j]? = some u → Rep g.S g.up w none y u ∨ ∃ id ∈ ids, tgt id = j ∧ Rep g.S g.up w (some (.root id)) y u) {b : Nat} (hβ : g.β id = some b) :
    ∃ w' g', (storeCells ⟨b, i * k + off, none⟩ us).run x.P w = .ok () w' ∧ Rel x g' ((σ.sc (pOut ids) (pOut ids)).setB id (.arr e k (rows.set i (lay (rows.getD i []) off xs)))) a w' := by
  have hR0 : Rep g.S g.up w (some (.root id)) (.osl e k rows) (.slice ((g.β id).map fun b => ⟨b, 0, none⟩) rows.length (g.κ id)) := h.ob id _ hb
  rw [hβ, Option.map_some] at hR0
  cases hR0 with
  | @osl _ _ _ _ _ _ cs q1 q2 q3 q4 q5 q6 q7 =>
    have hg : rows[i]? = some rows[i] := List.getElem?_eq_getElem hi
    have hrl := q6 i _ hg
    have hik : i * k + k ≤ cs.size := by
      have h1 : (i + 1) * k ≤ g.κ id * k := Nat.mul_le_mul_right _ (by omega)
      rw [Nat.add_mul, Nat.one_mul] at h1; omega
    have hone : ∀ u ∈ us, u.oneCell' = true := fun u hu => by
      obtain ⟨j, hj, rfl⟩ := List.getElem_of_mem hu
      rcases h5 j (xs[j]'(by rw [← hul]; exact hj)) us[j] (by rw [List.getElem?_eq_getElem]) (by rw [List.getElem?_eq_getElem]) with q | ⟨_, _, _, q⟩ <;> exact q.one
    have hr := run_storeCells_at x.P b (i * k + off) e us 0 cs w q2 (by simp; omega) hone
    simp only [Nat.add_zero] at hr
    generalize hcs : (cs.toList.take (i * k + off) ++ us ++ cs.toList.drop (i * k + off + us.length)).toArray = cs' at hr
    have hcsl : cs'.toList = lay cs.toList (i * k + off) us := by subst hcs; rfl
    have hfit : i * k + off + us.length ≤ cs.toList.length := by have hcl : cs.toList.length = cs.size := Array.length_toList; omega
    let π : Pos → Pos := fun p => match p with
      | .root m => if m ∈ ids then .cell b (i * k + off + tgt m) else .root m
      | p => p
    have ev : Ev (fun p => p ≠ .root id) π (pOut ids) (pOut (id :: ids)) g ⟨g.β, g.κ, fun c => (g.up c).map π, g.S⟩ w (w.setRow b cs') := by
      refine ⟨⟨fun c hc => ⟨hc, setRow_other _ _ _ _ (fun e => (h.own b _ q1).2.2 (e ▸ hc))⟩, fun c p hc hp => ⟨by show (g.up c).map π = _; rw [hc]; rfl, setRow_other _ _ _ _ (fun e => ?_)⟩, fun c p o _ _ => ⟨by simp, rfl⟩⟩, fun m _ => ⟨rfl, rfl⟩, fun m hm => ⟨?_, ?_, ?_⟩⟩
      · subst e; rw [q1] at hc; injection hc with hc; exact hp hc.symm
      · simp only [pOut, Bool.and_eq_true] at hm; exact hm.2
      · have := pOut_spec hm id (by simp)
        intro e; injection e with e; exact this e
      · show (if m ∈ ids then _ else _) = _
        rw [if_neg (fun q => pOut_spec hm m (List.mem_cons_of_mem _ q) rfl)]
    have hR := h.ev ev ⟨rfl, rfl, rfl, by simp, fun c hc => by omega⟩ (fun c hc hg => setRow_other _ _ _ _ (fun e => hg (e ▸ (h.own b _ q1).2.1 (e ▸ hc)))) (fun c _ hs => .inl hs) (fun c hs => by simpa using h.new c hs) (fun c p hc => by
      simp only at hc
      obtain ⟨p', hp', -⟩ := Option.map_eq_some_iff.1 hc
      simpa using h.own c p' hp')
    have hset := hR.setB (id := id) (o := .arr e k (rows.set i (lay (rows.getD i []) off xs))) (by
      show Rep _ _ _ _ _ _
      simp only [hβ, Option.map_some]
      have key := Rep.osl (S := g.S) (up := fun c => (g.up c).map π) (w := w.setRow b cs') (p := .root id) (e := e) (k := k) (rows := rows.set i (lay (rows.getD i []) off xs)) (b := b) (c := g.κ id) cs' (by
        show (g.up b).map π = _
        rw [q1]
        show some (if id ∈ ids then _ else _) = _
        rw [if_neg hid]) (setRow_heap _ _ _ _ _ _ q2) (by simpa using q3) q4 (by rw [← Array.length_toList, hcsl, lay_len hfit, Array.length_toList]; exact q5) (fun i' row hi' => ?_) (fun i' j row y hi' hj => ?_)
      · exact key
      · rw [List.getElem?_set] at hi'
        split at hi'
        · rename_i e; subst e
          injection hi' with hi'
          subst hi'
          rw [lay_len (by rw [getD_of hg, hrl]; exact hl), getD_of hg, hrl]
        · exact q6 i' row hi'
      · have hgd : ∀ m, cs'.getD m undef = (lay cs.toList (i * k + off) us).getD m undef := fun m => by
          rw [List.getD_eq_getElem?_getD, Array.getD_eq_getD_getElem?, ← hcsl, Array.getElem?_toList]
        have keep : ∀ (row0 : List D), rows[i']? = some row0 → row0[j]? = some y → ¬ (i * k + off ≤ i' * k + j ∧ i' * k + j < i * k + off + us.length) → Rep g.S (fun c => (g.up c).map π) (w.setRow b cs') (some (.cell b (i' * k + j))) y (cs'.getD (i' * k + j) undef) := by
          intro row0 r1 r2 r3
          have := Rep.move ev.toMv (q7 i' j row0 y r1 r2) (fun z hz => by injection hz with hz; subst hz; simp)
          rw [hgd, List.getD_eq_getElem?_getD, lay_at hfit, if_neg r3, Array.getElem?_toList, ← Array.getD_eq_getD_getElem?]
          exact this
        rw [List.getElem?_set] at hi'
        split at hi'
        · rename_i e; subst e
          injection hi' with hi'
          subst hi'
          rw [getD_of hg, lay_at (by rw [hrl]; exact hl)] at hj
          split at hj
          · rename_i hjo
            have hlt : j - off < us.length := by omega
            have hu : us[j - off]? = some us[j - off] := List.getElem?_eq_getElem hlt
            rw [hgd, List.getD_eq_getElem?_getD, lay_at hfit, if_pos (by omega), show i * k + j - (i * k + off) = j - off by omega, hu]
            rcases h5 _ y _ hj hu with q | ⟨m, hm, ht, q⟩
            · exact (Rep.move ev.toMv q (fun z hz => by cases hz)).any _
            · have := Rep.move ev.toMv q (fun z hz => by injection hz with hz; subst hz; intro e; injection e with e; exact hid (e ▸ hm))
              simp only [Option.map_some, π, if_pos hm, ht] at this
              rw [show i * k + off + (j - off) = i * k + j by omega] at this
              exact this
          · rename_i hjo
            exact keep _ hg hj (by omega)
        · rename_i hne
          have hjk : j < k := by rw [← q6 i' row hi']; exact (List.getElem?_eq_some_iff.1 hj).1
          refine keep row hi' hj fun ⟨c1, c2⟩ => ?_
          rcases Nat.lt_or_gt_of_ne hne with r | r
          · have : (i + 1) * k ≤ i' * k := Nat.mul_le_mul_right _ r
            rw [Nat.add_mul, Nat.one_mul] at this; omega
          · have : (i' + 1) * k ≤ i * k := Nat.mul_le_mul_right _ r
            rw [Nat.add_mul, Nat.one_mul] at this; omega) (h.par id _ hb)
    refine ⟨_, _, hr, hset.bel, hset.fr, hset.dfr, hset.sz, hset.tm, hset.s0, hset.old, hset.new, hset.own, fun m o hm => ?_, fun m o hm hq => ?_⟩
    · simp only [St.setB, St.sc] at hm
      split at hm
      · rename_i e; subst e
        exact hset.ob m o (by simp only [St.setB, if_true]; exact hm)
      · rename_i hne
        refine hset.ob m o ?_
        simp only [St.setB, if_neg hne, St.sc]
        rw [show pOut (id :: ids) m = pOut ids m by simp [pOut, hne]]
        exact hm
    · simp only [St.setB, St.sc] at hm
      split at hm
      · rename_i e; subst e; exact h.par m _ hb hq
      · split at hm
        · obtain ⟨o', h1, rfl⟩ := Option.map_eq_some_iff.1 hm
          exact h.par m o' h1 hq
        · cases hm
end Go.Proofs.Ytngobmjdbjlkcaa
