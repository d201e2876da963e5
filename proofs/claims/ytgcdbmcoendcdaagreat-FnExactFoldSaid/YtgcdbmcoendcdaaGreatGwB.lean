import Derived.Test.YtgcdbmcoendcdaaGreatGy
import Derived.Test.YtgcdbmcoendcdaaGreatBase
import Derived.Test.YtgcdbmcoendcdaaGreatGtB
/- The second engine: from the arguments' reading to plain data, and from the elder contracts. -/
set_option maxRecDepth 100000
namespace Go.Proofs.YtgcdbmcoendcdaaGreat
set_option linter.unusedVariables false
set_option linter.unusedSimpArgs false
open Go.RowKit Go.ChangeShapes Go.WideShapes
def sealW (W : World) : Nat → Prop := fun b => b < W.heap.size
abbrev upW : Nat → Option Pos := fun _ => none
def RepL (S : Nat → Prop) (up : Nat → Option Pos) (w : World) (ds : List D) (us : List Value) : Prop := us.length = ds.length ∧ ∀ (j : Nat) (d : D) (u : Value), ds[j]? = some d → us[j]? = some u → Rep S up w none d u
theorem cell_lt {W : World} {b o : Nat} {v : Value} (h : W.cell? ⟨b, o, none⟩ = some v) : b < W.heap.size := by
  rcases Nat.lt_or_ge b W.heap.size with q | q
  · exact q
  · simp [World.cell?, Array.getElem?_eq_none q] at h
theorem CellsAt.cellW {W : World} {b off : Nat} {r : List Value} (h : CellsAt (hp W) b off r) {j : Nat} {u : Value} (hj : r[j]? = some u) : W.cell? ⟨b, off + j, none⟩ = some u := by
  have hlt := (List.getElem?_eq_some_iff.1 hj).1
  rw [h.cell (Sub.self W) hlt, ← hj, List.getElem?_eq_getElem hlt]
theorem SlOf.rep {α : Type} {enc : α → List D} {ok : α → Prop} {k : Nat} {W : World} {R : Hp → List Value → α → Prop} (hR : ∀ r x, R (hp W) r x → RepL (sealW W) upW W (enc x) r ∧ ok x) {v : Value} {xs : List α} (h : SlOf k R (hp W) v xs) :
    Rep (sealW W) upW W none (.sl k (xs.map enc)) v ∧ ∀ x ∈ xs, ok x := by
  obtain ⟨a, c, rfl, h1, h2, rfl | ⟨b, off, rfl, hc⟩⟩ := h
  · exact ⟨.sl0 h2, fun x hx => by cases hx⟩
  · have key : ∀ i (hi : i < xs.length), ∃ r : List Value, r.length = k ∧ (∀ (j : Nat) (u : Value), r[j]? = some u → W.cell? ⟨b, off + i * k + j, none⟩ = some u) ∧ RepL (sealW W) upW W (enc xs[i]) r ∧ ok xs[i] := by
      intro i hi
      obtain ⟨r, r1, r2, r3⟩ := hc i hi
      exact ⟨r, r1, fun j u hj => r2.cellW hj, hR _ _ r3⟩
    refine ⟨?_, fun x hx => ?_⟩
    · have hrows : ∀ (i : Nat) (row : List D), (xs.map enc)[i]? = some row → ∃ hi : i < xs.length, row = enc xs[i] := by
        intro i row h
        rw [List.getElem?_map] at h
        cases hx : xs[i]? with
        | none => rw [hx] at h; cases h
        | some y =>
          rw [hx] at h
          injection h with h
          obtain ⟨hi, e⟩ := List.getElem?_eq_some_iff.1 hx
          exact ⟨hi, by rw [← h, ← e]⟩
      have hcell : ∀ (i j : Nat) (row : List D) (d : D), (xs.map enc)[i]? = some row → row[j]? = some d → ∃ u, W.cell? ⟨b, off + i * k + j, none⟩ = some u ∧ Rep (sealW W) upW W none d u := by
        intro i j row d hi hj
        obtain ⟨hi', rfl⟩ := hrows i row hi
        obtain ⟨r, r1, r2, r3, -⟩ := key i hi'
        have hlt : j < r.length := by rw [r3.1]; exact (List.getElem?_eq_some_iff.1 hj).1
        exact ⟨r[j], r2 j _ (List.getElem?_eq_getElem hlt), r3.2 j d _ hj (List.getElem?_eq_getElem hlt)⟩
      have hlen : xs.length = (xs.map enc).length := by simp
      rw [hlen]
      refine Rep.sl (fun i j => (W.cell? ⟨b, off + i * k + j, none⟩).getD undef) (by rw [← hlen]; exact h1) h2 (fun i row hi => ?_) (fun i j row d hi hj => ?_) (fun i j row d hi hj => ?_)
      · obtain ⟨hi', rfl⟩ := hrows i row hi
        obtain ⟨r, r1, r2, r3, -⟩ := key i hi'
        rw [← r3.1, r1]
      · obtain ⟨u, hu, hr⟩ := hcell i j row d hi hj
        exact ⟨cell_lt hu, by rw [hu]; rfl⟩
      · obtain ⟨u, hu, hr⟩ := hcell i j row d hi hj
        rw [hu]; exact hr
    · obtain ⟨i, hi, rfl⟩ := List.getElem_of_mem hx
      obtain ⟨r, _, _, _, h⟩ := key i hi
      exact h
theorem Rep.slOf {α : Type} {enc : α → List D} {k : Nat} {S : Nat → Prop} {up : Nat → Option Pos} {W : World} {R : Hp → List Value → α → Prop} {xs : List α} (hk : ∀ x ∈ xs, (enc x).length = k) (hk0 : 0 < k) (hR : ∀ r x, x ∈ xs → RepL S up W (enc x) r → R (hp W) r x) {v : Value} (h : Rep S up W none (.sl k (xs.map enc)) v) : SlOf k R (hp W) v xs := by
  generalize hrows : xs.map enc = rows at h
  cases h with
  | sl0 hc =>
    have : xs = [] := by cases xs with | nil => rfl | cons _ _ => simp at hrows
    subst this
    exact ⟨_, _, rfl, Nat.zero_le _, hc, .inl rfl⟩
  | @sl _ _ _ b off c us c1 c2 c3 c4 c5 =>
    subst hrows
    refine ⟨_, c, by simp, by simpa using c1, c2, .inr ⟨b, off, rfl, fun i hi => ?_⟩⟩
    have hg : (xs.map enc)[i]? = some (enc xs[i]) := by rw [List.getElem?_map, List.getElem?_eq_getElem hi]; rfl
    have hl := hk xs[i] (List.getElem_mem hi)
    have hlr : ((List.range k).map (us i)).length = k := by simp
    refine ⟨(List.range k).map (us i), hlr, cellsAt_of (by omega) (fun j hj => ?_), hR _ _ (List.getElem_mem hi) ⟨by simp [hl], fun j d u hd hu => ?_⟩⟩
    · have hjk : j < k := by omega
      have := (c4 i j _ ((enc xs[i])[j]'(by omega)) hg (List.getElem?_eq_getElem _)).2
      rw [this]
      simp [hjk]
    · have hjk : j < k := by rw [← hl]; exact (List.getElem?_eq_some_iff.1 hd).1
      have hu' : us i j = u := by simpa [hjk] using hu
      subst hu'
      exact c5 i j _ d hg hd
def RB (S : Nat → Prop) (up : Nat → Option Pos) (w : World) : D → Value → Prop
  | .ag xs, v => ∃ us : List Value, v = .agg us.toArray ∧ RepL S up w xs us
  | d, v => Rep S up w none d v
def lentB : D → Bool
  | .ag xs => xs.all fun y => !ownB y
  | d => !ownB d
theorem Rep.lent {S : Nat → Prop} {up : Nat → Option Pos} {w : World} {p : Option Pos} {d : D} {v : Value} (h : Rep S up w p d v) (hd : ownB d = false) : Rep S up w none d v := h.free (fun _ _ _ q => by subst q; cases hd) (fun _ q => by subst q; cases hd) none
theorem RA.lent {g : Gh} {w : World} {j : Nat} {d : D} {v : Value} (h : RA g w j d v) (hd : lentB d = true) : RB g.S g.up w d v := by
  cases d with
  | ag xs =>
    obtain ⟨us, rfl, u1, u2⟩ := h
    refine ⟨us, rfl, u1, fun l x u hx hu => (u2 l x u hx hu).lent ?_⟩
    have := List.all_eq_true.1 hd x (List.mem_of_getElem? hx)
    simpa using this
  | un => simp only [RA] at h; cases h
  | tup _ => simp only [RA] at h; cases h
  | mb _ _ => simp only [RA] at h; cases h
  | bx _ _ => simp only [RA] at h; cases h
  | el _ _ _ _ => simp only [RA] at h; cases h
  | bs _ _ _ => simp only [RA] at h; cases h
  | osl _ _ _ => cases hd
  | opt _ => cases hd
  | _ => simp only [RA] at h; exact h.lent rfl
theorem RB.ra {S : Nat → Prop} {up : Nat → Option Pos} {g : Gh} (hS : g.S = S) (hU : g.up = up) {w : World} {j : Nat} {d : D} {v : Value} (h : RB S up w d v) : RA g w j d v := by
  subst hS hU
  cases d with
  | ag xs => obtain ⟨us, rfl, u1, u2⟩ := h; exact ⟨us, rfl, u1, fun l x u hx hu => (u2 l x u hx hu).any _⟩
  | un => cases h
  | tup _ => cases h
  | mb _ _ => cases h
  | bx _ _ => cases h
  | el _ _ _ _ => cases h
  | bs _ _ _ => cases h
  | _ => exact Rep.any h _
theorem FCon.ofBelow {P : Program} {f : FuncId} {fn : Func} {c : Code} (hf : P.funcs[f]? = some fn) (hname : (fn.name == "runtime.NumGoroutine") = false) (hb : fn.body = some c) {ars : List D} {Rv : Value → Prop} {Rs : D → List D → Prop} (hR : ∀ v, Rv v → v.oneCell' = true ∧ Rs (.s v) []) (hl : ars.all lentB = true)
    (h : ∀ (w : World) (S : Nat → Prop) (up : Nat → Option Pos) (vs : List Value), vs.length = ars.length → (∀ (j : Nat) (b : D) (u : Value), ars[j]? = some b → vs[j]? = some u → RB S up w b u) → Calls P f vs.toArray w (fun e w' => ∃ v, e = .returned v ∧ Rv v ∧ Below w.heap.size w w')) : FCon P f ars Rs := by
  refine ⟨fun vs w => ?_, fun w g vs hS hu hl' hv => (h w g.S g.up vs hl' (fun j b u q1 q2 => (hv j b u q1 q2).lent (List.all_eq_true.1 hl b (List.mem_of_getElem? q1)))).mono ?_⟩
  · have hname' : ¬ fn.name = "runtime.NumGoroutine" := by simpa using hname
    have hbn : ¬ fn.body = none := by rw [hb]; simp
    simp [callFunc, hf, hname', hbn]
  · rintro e w' ⟨v, rfl, hv, hbel⟩
    obtain ⟨h1, h2⟩ := hR v hv
    exact ⟨v, ⟨fun _ => none, fun _ => 0, fun _ => none, g.S⟩, _, [], rfl, ⟨hbel.os, hbel.tape, hbel.output, hbel.size, fun k hk => by omega⟩, fun b hb' _ => hbel.block b hb', fun _ q => q, fun _ _ q => .inl q, fun b q => Nat.lt_of_lt_of_le (hS b q) hbel.size, fun b p q => (by cases q), h2, Rep.s h1, fun j d u q => (by simp at q)⟩
theorem FCon.law {f : FuncId} {ars : List D} (h : FCon Tryz.prog f ars (fun r _ => r = .s (.bool true))) (w : World) (vs : List Value) (hl : vs.length = ars.length) (hv : ∀ (j : Nat) (b : D) (u : Value), ars[j]? = some b → vs[j]? = some u → RB (sealW w) upW w b u) :
    Calls Tryz.prog f vs.toArray w fun e w' => e = .returned (.bool true) ∧ Below w.heap.size w w' := by
  refine (h.run w ⟨fun _ => none, fun _ => 0, upW, sealW w⟩ vs (fun _ q => q) (fun b p q => (by cases q)) hl (fun j b u q1 q2 => (hv j b u q1 q2).ra rfl rfl)).mono ?_
  rintro e w' ⟨v, g', r, o, rfl, b1, b2, b3, b4, b5, b6, rfl, b7, -⟩
  have b7 : Rep g'.S g'.up w' (some (.ans 0 0)) (.s (.bool true)) v := b7
  have : v = .bool true := Rep.s_inv b7
  subst this
  exact ⟨rfl, b1.os, b1.tape, b1.output, b1.size, fun k hk => b2 k hk rfl⟩
theorem ag_one {S : Nat → Prop} {up : Nat → Option Pos} {W : World} {d : D} {v : Value} (h : RB S up W (.ag [d]) v) : ∃ u, v = .agg #[u] ∧ Rep S up W none d u := by
  obtain ⟨us, rfl, hl, h⟩ := h
  match us, hl with
  | [u], _ => exact ⟨u, rfl, h 0 d u rfl rfl⟩
theorem one_arg {P : Nat → D → Value → Prop} {b : D} {vs : List Value} (hl : vs.length = [b].length) (h : ∀ (j : Nat) (c : D) (u : Value), [b][j]? = some c → vs[j]? = some u → P j c u) : ∃ v, vs = [v] ∧ P 0 b v := by
  match vs, hl with
  | [v], _ => exact ⟨v, rfl, h 0 b v rfl rfl⟩
end Go.Proofs.YtgcdbmcoendcdaaGreat

namespace Go.Proofs.YtgcdbmcoendcdaaGreat
set_option linter.unusedVariables false
set_option linter.unusedSimpArgs false
open Go.RowKit Go.ChangeShapes Go.WideShapes
theorem RepL.nil {S : Nat → Prop} {up : Nat → Option Pos} {W : World} : RepL S up W [] [] := ⟨rfl, fun j d u h => by simp at h⟩
theorem RepL.cons {S : Nat → Prop} {up : Nat → Option Pos} {W : World} {d : D} {u : Value} {ds : List D} {us : List Value} (h : Rep S up W none d u) (t : RepL S up W ds us) : RepL S up W (d :: ds) (u :: us) := ⟨by simp [t.1], fun j d' u' h1 h2 => by
  cases j with
  | zero => simp at h1 h2; subst h1 h2; exact h
  | succ j => exact t.2 j d' u' (by simpa using h1) (by simpa using h2)⟩
theorem RepL.append {S : Nat → Prop} {up : Nat → Option Pos} {W : World} : ∀ {a b : List D} {us vs : List Value}, RepL S up W a us → RepL S up W b vs → RepL S up W (a ++ b) (us ++ vs)
  | [], b, us, vs, h, t => by
    have : us = [] := List.eq_nil_of_length_eq_zero h.1
    subst this; exact t
  | d :: a, b, [], vs, h, t => by have := h.1; simp at this
  | d :: a, b, u :: us, vs, h, t => RepL.cons (h.2 0 d u rfl rfl) (RepL.append ⟨by have := h.1; simpa using this, fun j d' u' h1 h2 => h.2 (j + 1) d' u' (by simpa using h1) (by simpa using h2)⟩ t)
def RdE {α : Type} (t : TypeId) (k : Nat) (enc : α → List D) (ok : α → Prop) : Prop :=
  Tryz.prog.cellsOf t = k ∧ ∀ (H : Type) (en : TypeId × Value → H) (W : World) (n : Nat) (cs : List Value) (x : DataW H × List MemPlace), Rd en Tryz.prog W n t cs x → ∃ a : α, RepL (sealW W) upW W (enc a) cs ∧ ok a
theorem repL_one {S : Nat → Prop} {up : Nat → Option Pos} {W : World} {d : D} {v : Value} (h : Rep S up W none d v) : RepL S up W [d] [v] := RepL.cons h (RepL.nil)
theorem RdE.int {t : TypeId} (hu : Tryz.prog.underlying t = some (.int .i64)) (hc : Tryz.prog.cellsOf t = 1) : RdE t 1 (fun n : Int => [.s (.int .i64 n)]) I64 := by
  refine ⟨hc, fun H en W n cs x h => ?_⟩
  obtain ⟨k0, rfl, -, z0⟩ := DataW.trod_int hu h
  exact ⟨k0, repL_one (.s rfl), i64_of z0⟩
theorem RdE.string {t : TypeId} (hu : Tryz.prog.underlying t = some .string) (hc : Tryz.prog.cellsOf t = 1) : RdE t 1 (fun s : ByteArray => [.s (.string s)]) (fun s => s.size ≤ maxLen) := by
  refine ⟨hc, fun H en W n cs x h => ?_⟩
  obtain ⟨k0, rfl, -, z0⟩ := DataW.trod_string hu h
  exact ⟨k0, repL_one (.s rfl), z0⟩
theorem RdE.bool {t : TypeId} (hu : Tryz.prog.underlying t = some .bool) (hc : Tryz.prog.cellsOf t = 1) : RdE t 1 (fun b : Bool => [.s (.bool b)]) (fun _ => True) := by
  refine ⟨hc, fun H en W n cs x h => ?_⟩
  obtain ⟨k0, rfl, -⟩ := DataW.trod_bool hu h
  exact ⟨k0, repL_one (.s rfl), trivial⟩
theorem RdE.slice {α : Type} {t e : TypeId} {k : Nat} {enc : α → List D} {ok : α → Prop} (hu : Tryz.prog.underlying t = some (.slice e)) (hc : Tryz.prog.cellsOf t = 1) (hk : 0 < k) (h : RdE e k enc ok) : RdE t 1 (fun xs : List α => [.sl k (xs.map enc)]) (fun xs => ∀ x ∈ xs, ok x) := by
  refine ⟨hc, fun H en W n cs x hr => ?_⟩
  obtain ⟨v, xs, rfl, hs⟩ := rd_slice k (fun hh r (x : α) => hh = hp W ∧ RepL (sealW W) upW W (enc x) r ∧ ok x) hu h.1 hk (fun n cs' y hy => by
    obtain ⟨a, h1, h2⟩ := h.2 H en W n cs' y hy
    exact ⟨a, rfl, h1, h2⟩) hr
  obtain ⟨h1, h2⟩ := SlOf.rep (enc := enc) (ok := ok) (fun r x hr => hr.2) hs
  exact ⟨xs, repL_one h1, h2⟩
inductive PartsL (S : Nat → Prop) (up : Nat → Option Pos) (W : World) (cs : List Value) : Nat → List (List D) → Prop where
  | nil {off : Nat} : off = cs.length → PartsL S up W cs off []
  | cons {off k : Nat} {ds : List D} {r : List (List D)} : RepL S up W ds ((cs.drop off).take k) → PartsL S up W cs (off + k) r → off + k ≤ cs.length → PartsL S up W cs off (ds :: r)
theorem PartsL.rep {S : Nat → Prop} {up : Nat → Option Pos} {W : World} {cs : List Value} : ∀ {r : List (List D)} {off : Nat}, PartsL S up W cs off r → RepL S up W r.flatten (cs.drop off)
  | [], off, .nil h => by rw [h, List.drop_length]; exact RepL.nil
  | ds :: r, off, .cons (k := k) h t hl => by
    have h2 := h.append t.rep
    have : (cs.drop off).take k ++ cs.drop (off + k) = cs.drop off := by
      rw [← List.drop_drop, List.take_append_drop]
    rw [this] at h2
    exact h2
theorem sl_of {P : Program} {W : World} {r : Reach} {b : Nat} {t e : TypeId} {v : Value} (hu : P.underlying t = some (.slice e)) (o : Value.okWide P W r b t v) : ∃ a n c, v = .slice a n c ∧ v.cells.toList = [v] := by
  obtain ⟨a, n, c, rfl, _⟩ := okWide_slice hu o
  exact ⟨a, n, c, rfl, rfl⟩
theorem agg_of {P : Program} {W : World} {r : Reach} {b : Nat} {t : TypeId} {fs : Array Field} {v : Value} (hu : P.underlying t = some (.struct fs)) (o : Value.okWide P W r b t v) : ∃ cs, v = .agg cs ∧ v.cells.toList = cs.toList := by
  obtain ⟨cs, rfl, _⟩ := okWide_struct hu o
  exact ⟨cs, rfl, rfl⟩
theorem trod_ex {H : Type} {P : Program} {en : TypeId × Value → H} {w : World} {t : TypeId} {v : Value} {x : DataW H} {pl : List MemPlace} (k : DataW.Trod en P w 0 (fun _ => true) true t v x pl) : ∃ fuel, Rd en P w fuel t v.cells.toList (x, pl) := k
theorem Rep.rb {S : Nat → Prop} {up : Nat → Option Pos} {W : World} {d : D} {v : Value} (h : Rep S up W none d v) : RB S up W d v := by
  cases d <;> first | exact h | cases h
theorem RdE.sl {α : Type} {t e : TypeId} {d : α → D} {ok : α → Prop} (h : RdE t 1 (fun a => [d a]) ok) (hu : Tryz.prog.underlying t = some (.slice e)) {H : Type} {en : TypeId × Value → H} {w : World} {r : Reach} {b : Nat} {v : Value} {x : DataW H} {pl : List MemPlace} (k : DataW.Trod en Tryz.prog w 0 (fun _ => true) true t v x pl) (o : Value.okWide Tryz.prog w r b t v) :
    ∃ a : α, RB (sealW w) upW w (d a) v ∧ ok a := by
  obtain ⟨a, n, c, e1, e2⟩ := sl_of hu o
  obtain ⟨fuel, hf⟩ := trod_ex k
  rw [e2] at hf
  obtain ⟨y, hy, ho⟩ := h.2 _ _ _ _ _ _ hf
  exact ⟨y, (hy.2 0 _ _ rfl rfl).rb, ho⟩
theorem RdE.ag {α : Type} {t : TypeId} {n : Nat} {fs : Array Field} {enc : α → List D} {ok : α → Prop} (h : RdE t n enc ok) (hu : Tryz.prog.underlying t = some (.struct fs)) {H : Type} {en : TypeId × Value → H} {w : World} {r : Reach} {b : Nat} {v : Value} {x : DataW H} {pl : List MemPlace} (k : DataW.Trod en Tryz.prog w 0 (fun _ => true) true t v x pl) (o : Value.okWide Tryz.prog w r b t v) :
    ∃ a : α, RB (sealW w) upW w (.ag (enc a)) v ∧ ok a := by
  obtain ⟨cs, e1, e2⟩ := agg_of hu o
  obtain ⟨fuel, hf⟩ := trod_ex k
  rw [e2] at hf
  subst e1
  obtain ⟨y, hy, ho⟩ := h.2 _ _ _ _ _ _ hf
  exact ⟨y, ⟨cs.toList, by simp, hy⟩, ho⟩
theorem args1 {P : D → Value → Prop} {b0 : D} {v0 : Value} (h0 : P b0 v0) : ∀ (j : Nat) (b : D) (u : Value), [b0][j]? = some b → [v0][j]? = some u → P b u
  | 0, _, _, rfl, rfl => h0
theorem args2 {P : D → Value → Prop} {b0 b1 : D} {v0 v1 : Value} (h0 : P b0 v0) (h1 : P b1 v1) : ∀ (j : Nat) (b : D) (u : Value), [b0, b1][j]? = some b → [v0, v1][j]? = some u → P b u
  | 0, _, _, rfl, rfl => h0
  | 1, _, _, rfl, rfl => h1
theorem args3 {P : D → Value → Prop} {b0 b1 b2 : D} {v0 v1 v2 : Value} (h0 : P b0 v0) (h1 : P b1 v1) (h2 : P b2 v2) : ∀ (j : Nat) (b : D) (u : Value), [b0, b1, b2][j]? = some b → [v0, v1, v2][j]? = some u → P b u
  | 0, _, _, rfl, rfl => h0
  | 1, _, _, rfl, rfl => h1
  | 2, _, _, rfl, rfl => h2
end Go.Proofs.YtgcdbmcoendcdaaGreat

namespace Go.Proofs.YtgcdbmcoendcdaaGreat
set_option linter.unusedVariables false
set_option linter.unusedSimpArgs false
open Go.RowKit
def St.nilE (σ : St) (id : Nat) (row : List D) (c nm e k : Nat) : St := ((σ.sc (pOut [nm]) (pOut [nm])).setB id (.box ((row.map (scC (pOut [nm]))).set c (.bs nm k 0)))).setB nm (.arr e k [])
theorem Rel.nilE {x : Cx} {g : Gh} {σ : St} {a : Act} {w : World} (h : Rel x g σ a w) {id c nm : Nat} {row : List D} (e k : Nat) (hb : σ.b id = some (.box row)) (hc : row[c]? = some .nil) (hne : nm ≠ id) (hnP : isP nm = false) : ∃ g', Rel x g' (σ.nilE id row c nm e k) a w := by
  let g' : Gh := ⟨fun j => if j = nm then none else g.β j, fun j => if j = nm then 0 else g.κ j, g.up, g.S⟩
  have ev : Ev (fun p => p ≠ .root nm) (fun p => p) (pOut [nm]) (pOut [nm]) g g' w w := by
    refine ⟨⟨fun b hb => ⟨hb, rfl⟩, fun b p hp _ => ⟨hp, rfl⟩, fun b p o _ _ => ⟨by simp, rfl⟩⟩, fun j hj => ?_, fun j hj => ?_⟩
    · have := pOut_spec hj nm (by simp)
      exact ⟨if_neg this, if_neg this⟩
    · have := pOut_spec hj nm (by simp)
      exact ⟨hj, fun q => by injection q with q; exact this q, rfl⟩
  have hR := h.ev ev (Below.refl _ _) (fun b _ _ => rfl) (fun b _ hs => .inl hs) h.new h.own
  have hid : pOut [nm] id = true := by simp [pOut]; exact fun q => hne q.symm
  have hbx : (σ.sc (pOut [nm]) (pOut [nm])).b id = some (.box (row.map (scC (pOut [nm])))) := by
    show (if pOut [nm] id = true then (σ.b id).map (scO (pOut [nm])) else none) = _
    rw [if_pos hid, hb]; rfl
  obtain ⟨b, cs, ty, e1, e2, e3, e4, e5⟩ := hR.ob id _ hbx
  have hcl : c < row.length := (List.getElem?_eq_some_iff.1 hc).1
  refine ⟨g', (hR.setB (id := id) (o := .box ((row.map (scC (pOut [nm]))).set c (.bs nm k 0))) ⟨b, cs, ty, e1, e2, e3, by simpa using e4, fun j d hj => ?_⟩ (fun hp => hR.par id _ hbx hp)).setB (id := nm) ?_ (fun hp => by rw [hnP] at hp; cases hp)⟩
  · rw [List.getElem?_set] at hj
    split at hj
    · rename_i q; subst q
      rw [if_pos (by simpa using hcl)] at hj
      injection hj with hj; subst hj
      have h0 := e5 c .nil (by rw [List.getElem?_map, hc]; rfl)
      have h0 : Rep g'.S g'.up w (some (.cell b c)) .nil (cs.getD c undef) := h0
      generalize cs.getD c undef = v at h0
      cases h0
      have hβ : g'.β nm = none := if_pos rfl
      have hκ : g'.κ nm = 0 := if_pos rfl
      exact ⟨by rw [hβ, hκ]; rfl, Nat.zero_le _, by rw [hκ]; exact Nat.zero_le _, fun _ => hκ⟩
    · exact e5 j d hj
  · have hβ : g'.β nm = none := if_pos rfl
    have hκ : g'.κ nm = 0 := if_pos rfl
    show Rep g'.S g'.up w (some (.root nm)) (.osl e k []) (.slice ((g'.β nm).map fun b => ⟨b, 0, none⟩) 0 (g'.κ nm))
    rw [hβ, hκ]
    exact .osl0
theorem Wk_nil {M : Md} {N : Nat} {σ : St} (id c nm : Nat) {row : List D} (e k : Nat) (hb : σ.b id = some (.box row)) (hc : row[c]? = some .nil) (hne : nm ≠ id) (hnP : isP nm = false) : Wk M N σ (σ.nilE id row c nm e k) := fun x g a w _ _ hr => hr.nilE e k hb hc hne hnP
theorem AC_nil {M : Md} {N : Nat} {pl : List (Nat × Plan)} {K : Exit → St → Prop} {σ : St} {cd : Code} (id c nm : Nat) {row : List D} (e k : Nat) (hb : σ.b id = some (.box row)) (hc : row[c]? = some .nil) (hne : nm ≠ id) (hnP : isP nm = false) (h : AC M N pl cd K (σ.nilE id row c nm e k)) : AC M N pl cd K σ := AC_weak (Wk_nil id c nm e k hb hc hne hnP) h
theorem nilE_t (σ : St) (id : Nat) (row : List D) (c nm e k j : Nat) : (σ.nilE id row c nm e k).t j = scT (pOut [nm]) (σ.t j) := rfl
theorem nilE_b (σ : St) (id : Nat) (row : List D) (c nm e k j : Nat) : (σ.nilE id row c nm e k).b j = if j = nm then some (.arr e k []) else if j = id then some (.box ((row.map (scC (pOut [nm]))).set c (.bs nm k 0))) else if pOut [nm] j = true then (σ.b j).map (scO (pOut [nm])) else none := rfl
attribute [go_sem] nilE_t nilE_b
end Go.Proofs.YtgcdbmcoendcdaaGreat

namespace Go.Proofs.YtgcdbmcoendcdaaGreat
set_option linter.unusedVariables false
set_option linter.unusedSimpArgs false
open Go.RowKit
theorem nil_tup {g : Gh} {w : World} {d d' : D} {y : D} {v : Value} (h : ∀ u, RN g w 0 d u → RN g w 0 d' u) (hv : RNs g w (.tup [d, y]) v) : RNs g w (.tup [d', y]) v := by
  obtain ⟨us, e, hl, hr⟩ := hv
  refine ⟨us, e, hl, fun m x u hx hu => ?_⟩
  match m, hx with
  | 0, hx =>
    have hx : d' = x := by simpa using hx
    subst hx
    exact h u (hr 0 d u rfl hu)
  | 1, hx => exact hr 1 x u hx hu
  | m + 2, hx => simp at hx
theorem FCon.arg {P : Program} {f : FuncId} {args : List D} {Rs : D → List D → Prop} (h : FCon P f args Rs) (args' : List D) (hl : args'.length = args.length) (ha : ∀ (j : Nat) (d' d : D), args'[j]? = some d' → args[j]? = some d → ∀ (g : Gh) (w : World) (u : Value), RA g w j d' u → RA g w j d u) : FCon P f args' Rs :=
  ⟨h.ent, fun w g vs h1 h2 h3 h4 => h.run w g vs h1 h2 (h3.trans hl) fun j d u hd hu => by
    have hj : j < args'.length := by rw [hl]; exact (List.getElem?_eq_some_iff.1 hd).1
    exact ha j _ d (List.getElem?_eq_getElem hj) hd g w u (h4 j _ u (List.getElem?_eq_getElem hj) hu)⟩
theorem RA_nilO {g : Gh} {w : World} {j e k : Nat} {u : Value} (h : RA g w j (.opt [.nil]) u) : RA g w j (.opt [.osl e k []]) u := by
  have h : Rep g.S g.up w (some (.par j 0)) (.opt [.nil]) u := h
  show Rep g.S g.up w (some (.par j 0)) (.opt [.osl e k []]) u
  cases h with
  | opt cs h1 h2 h3 h4 =>
    refine .opt cs h1 h2 (by simpa using h3) fun i d hi => ?_
    match i, hi with
    | 0, hi =>
      have hi : D.osl e k [] = d := by simpa using hi
      subst hi
      exact Rep.nil_osl _ _ (h4 0 .nil rfl)
    | i + 1, hi => simp at hi
theorem RA_nilS {g : Gh} {w : World} {j k : Nat} {u : Value} (h : RA g w j .nil u) : RA g w j (.sl k []) u := Rep.nil_sl k (show Rep g.S g.up w (some (.par j 0)) .nil u from h)
theorem FCon.tupO {P : Program} {f : FuncId} {args : List D} {e k : Nat} {c : D} (h : FCon P f args (fun r _ => r = .tup [.nil, c])) : FCon P f args (fun r _ => r = .tup [.osl e k [], c]) := h.wk fun r o e' => by
  subst e'
  exact ⟨_, rfl, fun g w v hv => nil_tup (d := .nil) (fun u hu => Rep.nil_osl _ _ (show Rep g.S g.up w (some (.ans 0 0)) .nil u from hu)) hv⟩
theorem FCon.tupS {P : Program} {f : FuncId} {args : List D} {k : Nat} {c : D} (h : FCon P f args (fun r _ => r = .tup [.nil, c])) : FCon P f args (fun r _ => r = .tup [.sl k [], c]) := h.wk fun r o e' => by
  subst e'
  exact ⟨_, rfl, fun g w v hv => nil_tup (d := .nil) (fun u hu => Rep.nil_sl _ (show Rep g.S g.up w (some (.ans 0 0)) .nil u from hu)) hv⟩
theorem RA_optN {g : Gh} {w : World} {j : Nat} {u : Value} {row row' : List D} (hl : row'.length = row.length) (hc : ∀ (i : Nat) (d d' : D), row[i]? = some d → row'[i]? = some d' → d' = d ∨ (d = .nil ∧ ((∃ e k, d' = .osl e k []) ∨ ∃ k, d' = .sl k []))) (h : RA g w j (.opt row) u) : RA g w j (.opt row') u := by
  have h : Rep g.S g.up w (some (.par j 0)) (.opt row) u := h
  show Rep g.S g.up w (some (.par j 0)) (.opt row') u
  cases h with
  | opt cs h1 h2 h3 h4 =>
    refine .opt cs h1 h2 (h3.trans hl.symm) fun i d' hi => ?_
    have hil : i < row.length := by rw [← hl]; exact (List.getElem?_eq_some_iff.1 hi).1
    have hd := List.getElem?_eq_getElem hil
    rcases hc i row[i] d' hd hi with rfl | ⟨e, ⟨e', k', rfl⟩ | ⟨k', rfl⟩⟩
    · exact h4 i _ hd
    · rw [e] at hd; exact Rep.nil_osl _ _ (h4 i .nil hd)
    · rw [e] at hd; exact Rep.nil_sl _ (h4 i .nil hd)
theorem RNs_tupN {g : Gh} {w : World} {v : Value} {xs xs' : List D} (hl : xs'.length = xs.length) (hc : ∀ (m : Nat) (x x' : D), xs[m]? = some x → xs'[m]? = some x' → ∀ u, RN g w m x u → RN g w m x' u) (h : RNs g w (.tup xs) v) : RNs g w (.tup xs') v := by
  obtain ⟨us, e, h1, h2⟩ := h
  refine ⟨us, e, h1.trans hl.symm, fun m x' u hx hu => ?_⟩
  have hm : m < xs.length := by rw [← hl]; exact (List.getElem?_eq_some_iff.1 hx).1
  have hd := List.getElem?_eq_getElem hm
  exact hc m _ x' hd hx u (h2 m _ u hd hu)
theorem RN_agN {g : Gh} {w : World} {m : Nat} {u : Value} {ys ys' : List D} (hl : ys'.length = ys.length) (hc : ∀ (i : Nat) (d d' : D), ys[i]? = some d → ys'[i]? = some d' → d' = d ∨ (d = .nil ∧ ((∃ e k, d' = .osl e k []) ∨ ∃ k, d' = .sl k []))) (h : RN g w m (.ag ys) u) : RN g w m (.ag ys') u := by
  obtain ⟨us, e, h1, h2⟩ := h
  refine ⟨us, e, h1.trans hl.symm, fun i d' v hi hv => ?_⟩
  have hil : i < ys.length := by rw [← hl]; exact (List.getElem?_eq_some_iff.1 hi).1
  have hd := List.getElem?_eq_getElem hil
  rcases hc i ys[i] d' hd hi with rfl | ⟨e, ⟨e', k', rfl⟩ | ⟨k', rfl⟩⟩
  · exact h2 i _ v hd hv
  · rw [e] at hd; exact Rep.nil_osl _ _ (h2 i .nil v hd hv)
  · rw [e] at hd; exact Rep.nil_sl _ (h2 i .nil v hd hv)
end Go.Proofs.YtgcdbmcoendcdaaGreat
