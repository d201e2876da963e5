import Derived.Test.YthkgncddilkmbaaGy
import Derived.Test.YthkgncddilkmbaaBase
/- The second engine: from the arguments' reading to plain data, and from the elder contracts. -/
namespace Go.Proofs.Ythkgncddilkmbaa
set_option linter.unusedVariables false
set_option linter.unusedSimpArgs false
open Go.RowKit Go.ChangeShapes Go.WideShapes
/-- all that is there when a call begins. -/
def sealW (W : World) : Nat → Prop := fun b => b < W.heap.size
/-- nobody owns anything. -/
abbrev upW : Nat → Option Pos := fun _ => none
/-- a row of data and its values. -/
def RepL (S : Nat → Prop) (up : Nat → Option Pos) (w : World) (ds : List D) (us : List Value) : Prop := us.length = ds.length ∧ ∀ (j : Nat) (d : D) (u : Value), ds[j]? = some d → us[j]? = some u → Rep S up w none d u
theorem cell_lt {W : World} {b o : Nat} {v : Value} (h : W.cell? ⟨b, o, none⟩ = some v) : b < W.heap.size := by
  rcases Nat.lt_or_ge b W.heap.size with q | q
  · exact q
  · simp [World.cell?, Array.getElem?_eq_none q] at h
theorem CellsAt.cellW {W : World} {b off : Nat} {r : List Value} (h : CellsAt (hp W) b off r) {j : Nat} {u : Value} (hj : r[j]? = some u) : W.cell? ⟨b, off + j, none⟩ = some u := by
  have hlt := (List.getElem?_eq_some_iff.1 hj).1
  rw [h.cell (Sub.self W) hlt, ← hj, List.getElem?_eq_getElem hlt]
/-- a slice that was read, as data. -/
theorem SlOf.rep {α : Type} {enc : α → List D} {ok : α → Prop} {k : Nat} {W : World} {R : Hp → List Value → α → Prop} (hR : ∀ r x, R (hp W) r x → RepL (sealW W) upW W (enc x) r ∧ ok x) {v : Value} {xs : List α} (h : SlOf k R (hp W) v xs) :
    Rep (sealW W) upW W none (.sl k (xs.map enc)) v ∧ ∀ x ∈ xs, ok x := by
  obtain ⟨a, c, rfl, h1, h2, rfl | ⟨b, off, rfl, hc⟩⟩ := h
  · exact ⟨.sl0 h2, fun x hx => by cases hx⟩
  · have key : ∀ i (hi : i < xs.length), ∃ r : List Value, r.length = k ∧ (∀ (j : Nat) (u : Value), r[j]? = some u → W.cell? ⟨b, off + i * k + j, none⟩ = some u) ∧ RepL (sealW W) upW W (enc xs[i]) r ∧ ok xs[i] := by
      intro i hi
      obtain ⟨r, r1, r2, r3⟩ := hc i hi
      exact ⟨r, r1, fun j u hj => r2.cellW hj, hR _ _ r3⟩
    refine ⟨?_, fun x hx => ?_⟩
    · have hrows : ∀ (i : Nat) (row : List D), (xs.map enc)[i]? = some row → ∃ hi : i < xs.length, row = enc xs[i] := by
        intro i row h
        rw [List.getElem?_map] at h
        cases hx : xs[i]? with
        | none => rw [hx] at h; cases h
        | some y =>
          rw [hx] at h
          injection h with h
          obtain ⟨hi, e⟩ := List.getElem?_eq_some_iff.1 hx
          exact ⟨hi, by rw [← h, ← e]⟩
      have hcell : ∀ (i j : Nat) (row : List D) (d : D), (xs.map enc)[i]? = some row → row[j]? = some d → ∃ u, W.cell? ⟨b, off + i * k + j, none⟩ = some u ∧ Rep (sealW W) upW W none d u := by
        intro i j row d hi hj
        obtain ⟨hi', rfl⟩ := hrows i row hi
        obtain ⟨r, r1, r2, r3, -⟩ := key i hi'
        have hlt : j < r.length := by rw [r3.1]; exact (List.getElem?_eq_some_iff.1 hj).1
        exact ⟨r[j], r2 j _ (List.getElem?_eq_getElem hlt), r3.2 j d _ hj (List.getElem?_eq_getElem hlt)⟩
      have hlen : xs.length = (xs.map enc).length := by simp
      rw [hlen]
      refine Rep.sl (fun i j => (W.cell? ⟨b, off + i * k + j, none⟩).getD undef) (by rw [← hlen]; exact h1) h2 (fun i row hi => ?_) (fun i j row d hi hj => ?_) (fun i j row d hi hj => ?_)
      · obtain ⟨hi', rfl⟩ := hrows i row hi
        obtain ⟨r, r1, r2, r3, -⟩ := key i hi'
        rw [← r3.1, r1]
      · obtain ⟨u, hu, hr⟩ := hcell i j row d hi hj
        exact ⟨cell_lt hu, by rw [hu]; rfl⟩
      · obtain ⟨u, hu, hr⟩ := hcell i j row d hi hj
        rw [hu]; exact hr
    · obtain ⟨i, hi, rfl⟩ := List.getElem_of_mem hx
      obtain ⟨r, _, _, _, h⟩ := key i hi
      exact h
/-- data as the elder contracts want them. -/
theorem Rep.slOf {α : Type} {enc : α → List D} {k : Nat} {S : Nat → Prop} {up : Nat → Option Pos} {W : World} {R : Hp → List Value → α → Prop} {xs : List α} (hk : ∀ x ∈ xs, (enc x).length = k) (hk0 : 0 < k) (hR : ∀ r x, x ∈ xs → RepL S up W (enc x) r → R (hp W) r x) {v : Value} (h : Rep S up W none (.sl k (xs.map enc)) v) : SlOf k R (hp W) v xs := by
  generalize hrows : xs.map enc = rows at h
  cases h with
  | sl0 hc =>
    have : xs = [] := by cases xs with | nil => rfl | cons _ _ => simp at hrows
    subst this
    exact ⟨_, _, rfl, Nat.zero_le _, hc, .inl rfl⟩
  | @sl _ _ _ b off c us c1 c2 c3 c4 c5 =>
    subst hrows
    refine ⟨_, c, by simp, by simpa using c1, c2, .inr ⟨b, off, rfl, fun i hi => ?_⟩⟩
    have hg : (xs.map enc)[i]? = some (enc xs[i]) := by rw [List.getElem?_map, List.getElem?_eq_getElem hi]; rfl
    have hl := hk xs[i] (List.getElem_mem hi)
    have hlr : ((List.range k).map (us i)).length = k := by simp
    refine ⟨(List.range k).map (us i), hlr, cellsAt_of (by omega) (fun j hj => ?_), hR _ _ (List.getElem_mem hi) ⟨by simp [hl], fun j d u hd hu => ?_⟩⟩
    · have hjk : j < k := by omega
      have := (c4 i j _ ((enc xs[i])[j]'(by omega)) hg (List.getElem?_eq_getElem _)).2
      rw [this]
      simp [hjk]
    · have hjk : j < k := by rw [← hl]; exact (List.getElem?_eq_some_iff.1 hd).1
      have hu' : us i j = u := by simpa [hjk] using hu
      subst hu'
      exact c5 i j _ d hg hd
/-- a value that is lent or stands by itself. -/
def RB (S : Nat → Prop) (up : Nat → Option Pos) (w : World) : D → Value → Prop
  | .ag xs, v => ∃ us : List Value, v = .agg us.toArray ∧ RepL S up w xs us
  | d, v => Rep S up w none d v
def lentB : D → Bool
  | .ag xs => xs.all fun y => !ownB y
  | d => !ownB d
theorem Rep.lent {S : Nat → Prop} {up : Nat → Option Pos} {w : World} {p : Option Pos} {d : D} {v : Value} (h : Rep S up w p d v) (hd : ownB d = false) : Rep S up w none d v := h.free (fun _ _ _ q => by subst q; cases hd) (fun _ q => by subst q; cases hd) none
theorem RA.lent {g : Gh} {w : World} {j : Nat} {d : D} {v : Value} (h : RA g w j d v) (hd : lentB d = true) : RB g.S g.up w d v := by
  cases d with
  | ag xs =>
    obtain ⟨us, rfl, u1, u2⟩ := h
    refine ⟨us, rfl, u1, fun l x u hx hu => (u2 l x u hx hu).lent ?_⟩
    have := List.all_eq_true.1 hd x (List.mem_of_getElem? hx)
    simpa using this
  | un => simp only [RA] at h; cases h
  | tup _ => simp only [RA] at h; cases h
  | mb _ _ => simp only [RA] at h; cases h
  | bx _ _ => simp only [RA] at h; cases h
  | el _ _ _ _ => simp only [RA] at h; cases h
  | bs _ _ _ => simp only [RA] at h; cases h
  | osl _ _ _ => cases hd
  | opt _ => cases hd
  | _ => simp only [RA] at h; exact h.lent rfl
theorem RB.ra {S : Nat → Prop} {up : Nat → Option Pos} {g : Gh} (hS : g.S = S) (hU : g.up = up) {w : World} {j : Nat} {d : D} {v : Value} (h : RB S up w d v) : RA g w j d v := by
  subst hS hU
  cases d with
  | ag xs => obtain ⟨us, rfl, u1, u2⟩ := h; exact ⟨us, rfl, u1, fun l x u hx hu => (u2 l x u hx hu).any _⟩
  | un => cases h
  | tup _ => cases h
  | mb _ _ => cases h
  | bx _ _ => cases h
  | el _ _ _ _ => cases h
  | bs _ _ _ => cases h
  | _ => exact Rep.any h _
/-- an elder contract whose answer is no memory. -/
theorem FCon.ofBelow {P : Program} {f : FuncId} {fn : Func} {c : Code} (hf : P.funcs[f]? = some fn) (hname : (fn.name == "runtime.NumGoroutine") = false) (hb : fn.body = some c) {ars : List D} {Rv : Value → Prop} {Rs : D → List D → Prop} (hR : ∀ v, Rv v → v.oneCell' = true ∧ Rs (.s v) []) (hl : ars.all lentB = true)
    (h : ∀ (w : World) (S : Nat → Prop) (up : Nat → Option Pos) (vs : List Value), vs.length = ars.length → (∀ (j : Nat) (b : D) (u : Value), ars[j]? = some b → vs[j]? = some u → RB S up w b u) → Calls P f vs.toArray w (fun e w' => ∃ v, e = .returned v ∧ Rv v ∧ Below w.heap.size w w')) : FCon P f ars Rs := by
  refine ⟨fun vs w => ?_, fun w g vs hS hu hl' hv => (h w g.S g.up vs hl' (fun j b u q1 q2 => (hv j b u q1 q2).lent (List.all_eq_true.1 hl b (List.mem_of_getElem? q1)))).mono ?_⟩
  · have hname' : ¬ fn.name = "runtime.NumGoroutine" := by simpa using hname
    have hbn : ¬ fn.body = none := by rw [hb]; simp
    simp [callFunc, hf, hname', hbn]
  · rintro e w' ⟨v, rfl, hv, hbel⟩
    obtain ⟨h1, h2⟩ := hR v hv
    exact ⟨v, ⟨fun _ => none, fun _ => 0, fun _ => none, g.S⟩, _, [], rfl, ⟨hbel.os, hbel.tape, hbel.output, hbel.size, fun k hk => by omega⟩, fun b hb' _ => hbel.block b hb', fun _ q => q, fun _ _ q => .inl q, fun b q => Nat.lt_of_lt_of_le (hS b q) hbel.size, fun b p q => (by cases q), h2, Rep.s h1, fun j d u q => (by simp at q)⟩
/-- a law's walk. -/
theorem FCon.law {f : FuncId} {ars : List D} (h : FCon Try.prog f ars (fun r _ => r = .s (.bool true))) (w : World) (vs : List Value) (hl : vs.length = ars.length) (hv : ∀ (j : Nat) (b : D) (u : Value), ars[j]? = some b → vs[j]? = some u → RB (sealW w) upW w b u) :
    Calls Try.prog f vs.toArray w fun e w' => e = .returned (.bool true) ∧ Below w.heap.size w w' := by
  refine (h.run w ⟨fun _ => none, fun _ => 0, upW, sealW w⟩ vs (fun _ q => q) (fun b p q => (by cases q)) hl (fun j b u q1 q2 => (hv j b u q1 q2).ra rfl rfl)).mono ?_
  rintro e w' ⟨v, g', r, o, rfl, b1, b2, b3, b4, b5, b6, rfl, b7, -⟩
  have b7 : Rep g'.S g'.up w' (some (.ans 0 0)) (.s (.bool true)) v := b7
  have : v = .bool true := Rep.s_inv b7
  subst this
  exact ⟨rfl, b1.os, b1.tape, b1.output, b1.size, fun k hk => b2 k hk rfl⟩
theorem ag_one {S : Nat → Prop} {up : Nat → Option Pos} {W : World} {d : D} {v : Value} (h : RB S up W (.ag [d]) v) : ∃ u, v = .agg #[u] ∧ Rep S up W none d u := by
  obtain ⟨us, rfl, hl, h⟩ := h
  match us, hl with
  | [u], _ => exact ⟨u, rfl, h 0 d u rfl rfl⟩
theorem one_arg {P : Nat → D → Value → Prop} {b : D} {vs : List Value} (hl : vs.length = [b].length) (h : ∀ (j : Nat) (c : D) (u : Value), [b][j]? = some c → vs[j]? = some u → P j c u) : ∃ v, vs = [v] ∧ P 0 b v := by
  match vs, hl with
  | [v], _ => exact ⟨v, rfl, h 0 b v rfl rfl⟩
end Go.Proofs.Ythkgncddilkmbaa
