import Derived.Test.YthmedgipfdoneaaAbT
import Derived.Test.YthmedgipfdoneaaBase
/- The engine, fifteenth part: from the arguments' reading to plain data, and from the elder contracts. -/
namespace Go.Proofs.Ythmedgipfdoneaa
set_option linter.unusedVariables false
set_option linter.unusedSimpArgs false
open Go.RowKit Go.ChangeShapes Go.WideShapes
/-- all that is there when a call begins. -/
def sealW (W : World) : Seal := fun b _ => b < W.heap.size
theorem cell_lt {W : World} {b o : Nat} {v : Value} (h : W.cell? ⟨b, o, none⟩ = some v) : b < W.heap.size := by
  rcases Nat.lt_or_ge b W.heap.size with q | q
  · exact q
  · simp [World.cell?, Array.getElem?_eq_none q] at h
theorem CellsAt.cellW {W : World} {b off : Nat} {r : List Value} (h : CellsAt (hp W) b off r) {j : Nat} {u : Value} (hj : r[j]? = some u) : W.cell? ⟨b, off + j, none⟩ = some u := by
  have hlt := (List.getElem?_eq_some_iff.1 hj).1
  rw [h.cell (Sub.self W) hlt, ← hj, List.getElem?_eq_getElem hlt]
/-- a slice that was read, as data. -/
theorem SlOf.rep {α : Type} {enc : α → List D} {ok : α → Prop} {k : Nat} {W : World} {R : Hp → List Value → α → Prop} (hR : ∀ r x, R (hp W) r x → RepL (sealW W) W (enc x) r ∧ ok x) {v : Value} {xs : List α} (h : SlOf k R (hp W) v xs) :
    Rep (sealW W) W (.sl k (xs.map enc)) v ∧ ∀ x ∈ xs, ok x := by
  obtain ⟨a, c, rfl, h1, h2, rfl | ⟨b, off, rfl, hc⟩⟩ := h
  · exact ⟨.sl0 h2, fun x hx => by cases hx⟩
  · have key : ∀ i (hi : i < xs.length), ∃ r : List Value, r.length = k ∧ (∀ (j : Nat) (u : Value), r[j]? = some u → W.cell? ⟨b, off + i * k + j, none⟩ = some u) ∧ RepL (sealW W) W (enc xs[i]) r ∧ ok xs[i] := by
      intro i hi
      obtain ⟨r, r1, r2, r3⟩ := hc i hi
      exact ⟨r, r1, fun j u hj => r2.cellW hj, hR _ _ r3⟩
    refine ⟨?_, fun x hx => ?_⟩
    · have hrows : ∀ (i : Nat) (row : List D), (xs.map enc)[i]? = some row → ∃ hi : i < xs.length, row = enc xs[i] := by
        intro i row h
        rw [List.getElem?_map] at h
        cases hx : xs[i]? with
        | none => rw [hx] at h; cases h
        | some y =>
          rw [hx] at h
          injection h with h
          obtain ⟨hi, e⟩ := List.getElem?_eq_some_iff.1 hx
          exact ⟨hi, by rw [← h, ← e]⟩
      have hcell : ∀ (i j : Nat) (row : List D) (d : D), (xs.map enc)[i]? = some row → row[j]? = some d → ∃ u, W.cell? ⟨b, off + i * k + j, none⟩ = some u ∧ Rep (sealW W) W d u := by
        intro i j row d hi hj
        obtain ⟨hi', rfl⟩ := hrows i row hi
        obtain ⟨r, r1, r2, r3, -⟩ := key i hi'
        have hlt : j < r.length := by rw [r3.1]; exact (List.getElem?_eq_some_iff.1 hj).1
        exact ⟨r[j], r2 j _ (List.getElem?_eq_getElem hlt), r3.2 j d _ hj (List.getElem?_eq_getElem hlt)⟩
      have hlen : xs.length = (xs.map enc).length := by simp
      rw [hlen]
      refine Rep.sl (fun i j => (W.cell? ⟨b, off + i * k + j, none⟩).getD undef) (by rw [← hlen]; exact h1) h2 (fun i row hi => ?_) (fun i j row d hi hj => ?_) (fun i j row d hi hj => ?_)
      · obtain ⟨hi', rfl⟩ := hrows i row hi
        obtain ⟨r, r1, r2, r3, -⟩ := key i hi'
        rw [← r3.1, r1]
      · obtain ⟨u, hu, hr⟩ := hcell i j row d hi hj
        exact ⟨cell_lt hu, by rw [hu]; rfl⟩
      · obtain ⟨u, hu, hr⟩ := hcell i j row d hi hj
        rw [hu]; exact hr
    · obtain ⟨i, hi, rfl⟩ := List.getElem_of_mem hx
      obtain ⟨r, _, _, _, h⟩ := key i hi
      exact h
/-- data as the elder contracts want them. -/
theorem Rep.slOf {α : Type} {enc : α → List D} {k : Nat} {S : Seal} {W : World} {R : Hp → List Value → α → Prop} {xs : List α} (hk : ∀ x ∈ xs, (enc x).length = k) (hk0 : 0 < k) (hR : ∀ r x, x ∈ xs → RepL S W (enc x) r → R (hp W) r x) {v : Value} (h : Rep S W (.sl k (xs.map enc)) v) : SlOf k R (hp W) v xs := by
  generalize hrows : xs.map enc = rows at h
  cases h with
  | sl0 hc =>
    have : xs = [] := by cases xs with | nil => rfl | cons _ _ => simp at hrows
    subst this
    exact ⟨_, _, rfl, Nat.zero_le _, hc, .inl rfl⟩
  | @sl _ _ b off c us c1 c2 c3 c4 c5 =>
    subst hrows
    refine ⟨_, c, by simp, by simpa using c1, c2, .inr ⟨b, off, rfl, fun i hi => ?_⟩⟩
    have hg : (xs.map enc)[i]? = some (enc xs[i]) := by rw [List.getElem?_map, List.getElem?_eq_getElem hi]; rfl
    have hl := hk xs[i] (List.getElem_mem hi)
    have hlr : ((List.range k).map (us i)).length = k := by simp
    refine ⟨(List.range k).map (us i), hlr, cellsAt_of (by omega) (fun j hj => ?_), hR _ _ (List.getElem_mem hi) ⟨by simp [hl], fun j d u hd hu => ?_⟩⟩
    · have hjk : j < k := by omega
      have := (c4 i j _ ((enc xs[i])[j]'(by omega)) hg (List.getElem?_eq_getElem _)).2
      rw [this]
      simp [hjk]
    · have hjk : j < k := by rw [← hl]; exact (List.getElem?_eq_some_iff.1 hd).1
      have hu' : us i j = u := by simpa [hjk] using hu
      subst hu'
      exact c5 i j _ d hg hd
/-- an elder contract whose answer is no memory. -/
theorem FCon.ofBelow {P : Program} {f : FuncId} {fn : Func} {c : Code} (hf : P.funcs[f]? = some fn) (hname : (fn.name == "runtime.NumGoroutine") = false) (hb : fn.body = some c) {ars : List A} {Rv : Value → Prop} {Rs : T → Prop} (hR : ∀ v, Rv v → v.oneCell' = true ∧ Rs (.e (.d (.s v))))
    (h : ∀ (w : World) (S : Seal) (vs : List Value), vs.length = ars.length → (∀ (j : Nat) (b : A) (u : Value), ars[j]? = some b → vs[j]? = some u → RA S w b u) → Calls P f vs.toArray w (fun e w' => ∃ v, e = .returned v ∧ Rv v ∧ Below w.heap.size w w')) : FCon P f ars Rs := by
  refine ⟨fun vs w => ?_, fun w S vs hS hl hv => (h w S vs hl hv).mono ?_⟩
  · have hname' : ¬ fn.name = "runtime.NumGoroutine" := by simpa using hname
    have hbn : ¬ fn.body = none := by rw [hb]; simp
    simp [callFunc, hf, hname', hbn]
  · rintro e w' ⟨v, rfl, hv, hbel⟩
    obtain ⟨h1, h2⟩ := hR v hv
    exact ⟨v, ⟨fun _ => 0, fun _ => none, S⟩, _, rfl, hbel, fun _ _ _ => Iff.rfl, fun b o q => Nat.lt_of_lt_of_le (hS b o q) hbel.size, fun i j b q => (by cases q), fun i b q => (by cases q), h2, Rep.s h1⟩
/-- a law's walk. -/
theorem FCon.law {f : FuncId} {ars : List A} (h : FCon Try.prog f ars (· = .e (.d (.s (.bool true))))) (w : World) (vs : List Value) (hl : vs.length = ars.length) (hv : ∀ (j : Nat) (b : A) (u : Value), ars[j]? = some b → vs[j]? = some u → RA (sealW w) w b u) :
    Calls Try.prog f vs.toArray w fun e w' => e = .returned (.bool true) ∧ Below w.heap.size w w' := by
  refine (h.run w (sealW w) vs (fun _ _ q => q) hl hv).mono ?_
  rintro e w' ⟨v, g', r, rfl, b1, b2, b3, b4, b5, rfl, b7⟩
  have : v = .bool true := Rep.s_inv b7
  subst this
  exact ⟨rfl, b1⟩
abbrev Tint (n : Int) : T := .e (.d (.s (.int .i64 n)))
abbrev Tbool (b : Bool) : T := .e (.d (.s (.bool b)))
theorem ag_one {S : Seal} {W : World} {d : D} {v : Value} (h : RA S W (.ag [d]) v) : ∃ u, v = .agg #[u] ∧ Rep S W d u := by
  obtain ⟨us, rfl, hl⟩ := h
  obtain ⟨u, t, rfl, h0, h⟩ := hl.inv
  have : t = [] := List.eq_nil_of_length_eq_zero (by have := h.1; simpa using this)
  subst this
  exact ⟨u, rfl, h0⟩
theorem one_arg {P : Nat → A → Value → Prop} {b : A} {vs : List Value} (hl : vs.length = [b].length) (h : ∀ (j : Nat) (c : A) (u : Value), [b][j]? = some c → vs[j]? = some u → P j c u) : ∃ v, vs = [v] ∧ P 0 b v := by
  match vs, hl with
  | [v], _ => exact ⟨v, rfl, h 0 b v rfl rfl⟩
end Go.Proofs.Ythmedgipfdoneaa
