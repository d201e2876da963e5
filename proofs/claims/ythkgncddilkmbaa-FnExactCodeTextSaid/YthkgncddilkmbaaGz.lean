import Derived.Test.YthkgncddilkmbaaGw
/- The second engine: the arguments' reading as plain data, type by type. -/
namespace Go.Proofs.Ythkgncddilkmbaa
set_option linter.unusedVariables false
set_option linter.unusedSimpArgs false
open Go.RowKit Go.ChangeShapes Go.WideShapes
theorem RepL.nil {S : Nat → Prop} {up : Nat → Option Pos} {W : World} : RepL S up W [] [] := ⟨rfl, fun j d u h => by simp at h⟩
theorem RepL.cons {S : Nat → Prop} {up : Nat → Option Pos} {W : World} {d : D} {u : Value} {ds : List D} {us : List Value} (h : Rep S up W none d u) (t : RepL S up W ds us) : RepL S up W (d :: ds) (u :: us) := ⟨by simp [t.1], fun j d' u' h1 h2 => by
  cases j with
  | zero => simp at h1 h2; subst h1 h2; exact h
  | succ j => exact t.2 j d' u' (by simpa using h1) (by simpa using h2)⟩
theorem RepL.append {S : Nat → Prop} {up : Nat → Option Pos} {W : World} : ∀ {a b : List D} {us vs : List Value}, RepL S up W a us → RepL S up W b vs → RepL S up W (a ++ b) (us ++ vs)
  | [], b, us, vs, h, t => by
    have : us = [] := List.eq_nil_of_length_eq_zero h.1
    subst this; exact t
  | d :: a, b, [], vs, h, t => by have := h.1; simp at this
  | d :: a, b, u :: us, vs, h, t => RepL.cons (h.2 0 d u rfl rfl) (RepL.append ⟨by have := h.1; simpa using this, fun j d' u' h1 h2 => h.2 (j + 1) d' u' (by simpa using h1) (by simpa using h2)⟩ t)
/-- values of the type are read as data of 'α'. -/
def RdE {α : Type} (t : TypeId) (k : Nat) (enc : α → List D) (ok : α → Prop) : Prop :=
  Try.prog.cellsOf t = k ∧ ∀ (H : Type) (en : TypeId × Value → H) (W : World) (n : Nat) (cs : List Value) (x : DataW H × List MemPlace), Rd en Try.prog W n t cs x → ∃ a : α, RepL (sealW W) upW W (enc a) cs ∧ ok a
theorem repL_one {S : Nat → Prop} {up : Nat → Option Pos} {W : World} {d : D} {v : Value} (h : Rep S up W none d v) : RepL S up W [d] [v] := RepL.cons h (RepL.nil)
theorem RdE.int {t : TypeId} (hu : Try.prog.underlying t = some (.int .i64)) (hc : Try.prog.cellsOf t = 1) : RdE t 1 (fun n : Int => [.s (.int .i64 n)]) I64 := by
  refine ⟨hc, fun H en W n cs x h => ?_⟩
  obtain ⟨k0, rfl, -, z0⟩ := DataW.trod_int hu h
  exact ⟨k0, repL_one (.s rfl), i64_of z0⟩
theorem RdE.string {t : TypeId} (hu : Try.prog.underlying t = some .string) (hc : Try.prog.cellsOf t = 1) : RdE t 1 (fun s : ByteArray => [.s (.string s)]) (fun s => s.size ≤ maxLen) := by
  refine ⟨hc, fun H en W n cs x h => ?_⟩
  obtain ⟨k0, rfl, -, z0⟩ := DataW.trod_string hu h
  exact ⟨k0, repL_one (.s rfl), z0⟩
theorem RdE.bool {t : TypeId} (hu : Try.prog.underlying t = some .bool) (hc : Try.prog.cellsOf t = 1) : RdE t 1 (fun b : Bool => [.s (.bool b)]) (fun _ => True) := by
  refine ⟨hc, fun H en W n cs x h => ?_⟩
  obtain ⟨k0, rfl, -⟩ := DataW.trod_bool hu h
  exact ⟨k0, repL_one (.s rfl), trivial⟩
theorem RdE.slice {α : Type} {t e : TypeId} {k : Nat} {enc : α → List D} {ok : α → Prop} (hu : Try.prog.underlying t = some (.slice e)) (hc : Try.prog.cellsOf t = 1) (hk : 0 < k) (h : RdE e k enc ok) : RdE t 1 (fun xs : List α => [.sl k (xs.map enc)]) (fun xs => ∀ x ∈ xs, ok x) := by
  refine ⟨hc, fun H en W n cs x hr => ?_⟩
  obtain ⟨v, xs, rfl, hs⟩ := rd_slice k (fun hh r (x : α) => hh = hp W ∧ RepL (sealW W) upW W (enc x) r ∧ ok x) hu h.1 hk (fun n cs' y hy => by
    obtain ⟨a, h1, h2⟩ := h.2 H en W n cs' y hy
    exact ⟨a, rfl, h1, h2⟩) hr
  obtain ⟨h1, h2⟩ := SlOf.rep (enc := enc) (ok := ok) (fun r x hr => hr.2) hs
  exact ⟨xs, repL_one h1, h2⟩
/-- cells cut in a row's fields. -/
inductive PartsL (S : Nat → Prop) (up : Nat → Option Pos) (W : World) (cs : List Value) : Nat → List (List D) → Prop where
  | nil {off : Nat} : off = cs.length → PartsL S up W cs off []
  | cons {off k : Nat} {ds : List D} {r : List (List D)} : RepL S up W ds ((cs.drop off).take k) → PartsL S up W cs (off + k) r → off + k ≤ cs.length → PartsL S up W cs off (ds :: r)
theorem PartsL.rep {S : Nat → Prop} {up : Nat → Option Pos} {W : World} {cs : List Value} : ∀ {r : List (List D)} {off : Nat}, PartsL S up W cs off r → RepL S up W r.flatten (cs.drop off)
  | [], off, .nil h => by rw [h, List.drop_length]; exact RepL.nil
  | ds :: r, off, .cons (k := k) h t hl => by
    have h2 := h.append t.rep
    have : (cs.drop off).take k ++ cs.drop (off + k) = cs.drop off := by
      rw [← List.drop_drop, List.take_append_drop]
    rw [this] at h2
    exact h2
theorem sl_of {P : Program} {W : World} {r : Reach} {b : Nat} {t e : TypeId} {v : Value} (hu : P.underlying t = some (.slice e)) (o : Value.okWide P W r b t v) : ∃ a n c, v = .slice a n c ∧ v.cells.toList = [v] := by
  obtain ⟨a, n, c, rfl, _⟩ := okWide_slice hu o
  exact ⟨a, n, c, rfl, rfl⟩
theorem agg_of {P : Program} {W : World} {r : Reach} {b : Nat} {t : TypeId} {fs : Array Field} {v : Value} (hu : P.underlying t = some (.struct fs)) (o : Value.okWide P W r b t v) : ∃ cs, v = .agg cs ∧ v.cells.toList = cs.toList := by
  obtain ⟨cs, rfl, _⟩ := okWide_struct hu o
  exact ⟨cs, rfl, rfl⟩
theorem trod_ex {H : Type} {P : Program} {en : TypeId × Value → H} {w : World} {t : TypeId} {v : Value} {x : DataW H} {pl : List MemPlace} (k : DataW.Trod en P w 0 (fun _ => true) true t v x pl) : ∃ fuel, Rd en P w fuel t v.cells.toList (x, pl) := k
theorem Rep.rb {S : Nat → Prop} {up : Nat → Option Pos} {W : World} {d : D} {v : Value} (h : Rep S up W none d v) : RB S up W d v := by
  cases d <;> first | exact h | cases h
set_option maxRecDepth 100000 in
/-- a law's argument, a slice. -/
theorem RdE.sl {α : Type} {t e : TypeId} {d : α → D} {ok : α → Prop} (h : RdE t 1 (fun a => [d a]) ok) (hu : Try.prog.underlying t = some (.slice e)) {H : Type} {en : TypeId × Value → H} {w : World} {r : Reach} {b : Nat} {v : Value} {x : DataW H} {pl : List MemPlace} (k : DataW.Trod en Try.prog w 0 (fun _ => true) true t v x pl) (o : Value.okWide Try.prog w r b t v) :
    ∃ a : α, RB (sealW w) upW w (d a) v ∧ ok a := by
  obtain ⟨a, n, c, e1, e2⟩ := sl_of hu o
  obtain ⟨fuel, hf⟩ := trod_ex k
  rw [e2] at hf
  obtain ⟨y, hy, ho⟩ := h.2 _ _ _ _ _ _ hf
  exact ⟨y, (hy.2 0 _ _ rfl rfl).rb, ho⟩
set_option maxRecDepth 100000 in
/-- a law's argument, a struct. -/
theorem RdE.ag {α : Type} {t : TypeId} {n : Nat} {fs : Array Field} {enc : α → List D} {ok : α → Prop} (h : RdE t n enc ok) (hu : Try.prog.underlying t = some (.struct fs)) {H : Type} {en : TypeId × Value → H} {w : World} {r : Reach} {b : Nat} {v : Value} {x : DataW H} {pl : List MemPlace} (k : DataW.Trod en Try.prog w 0 (fun _ => true) true t v x pl) (o : Value.okWide Try.prog w r b t v) :
    ∃ a : α, RB (sealW w) upW w (.ag (enc a)) v ∧ ok a := by
  obtain ⟨cs, e1, e2⟩ := agg_of hu o
  obtain ⟨fuel, hf⟩ := trod_ex k
  rw [e2] at hf
  subst e1
  obtain ⟨y, hy, ho⟩ := h.2 _ _ _ _ _ _ hf
  exact ⟨y, ⟨cs.toList, by simp, hy⟩, ho⟩
theorem args1 {P : D → Value → Prop} {b0 : D} {v0 : Value} (h0 : P b0 v0) : ∀ (j : Nat) (b : D) (u : Value), [b0][j]? = some b → [v0][j]? = some u → P b u
  | 0, _, _, rfl, rfl => h0
theorem args2 {P : D → Value → Prop} {b0 b1 : D} {v0 v1 : Value} (h0 : P b0 v0) (h1 : P b1 v1) : ∀ (j : Nat) (b : D) (u : Value), [b0, b1][j]? = some b → [v0, v1][j]? = some u → P b u
  | 0, _, _, rfl, rfl => h0
  | 1, _, _, rfl, rfl => h1
theorem args3 {P : D → Value → Prop} {b0 b1 b2 : D} {v0 v1 v2 : Value} (h0 : P b0 v0) (h1 : P b1 v1) (h2 : P b2 v2) : ∀ (j : Nat) (b : D) (u : Value), [b0, b1, b2][j]? = some b → [v0, v1, v2][j]? = some u → P b u
  | 0, _, _, rfl, rfl => h0
  | 1, _, _, rfl, rfl => h1
  | 2, _, _, rfl, rfl => h2
end Go.Proofs.Ythkgncddilkmbaa
