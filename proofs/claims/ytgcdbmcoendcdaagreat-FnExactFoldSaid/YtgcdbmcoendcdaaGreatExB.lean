import Derived.Test.YtgcdbmcoendcdaaGreatPgB
import Derived.Test.YtgcdbmcoendcdaaGreatOrB
import Derived.Test.YtgcdbmcoendcdaaGreatPaB
import Derived.Test.YtgcdbmcoendcdaaGreatGwB
import Derived.Test.YtgcdbmcoendcdaaGreatBase
/- Right programs as trees: plain. -/
set_option maxRecDepth 100000
set_option maxHeartbeats 1000000
namespace Go.Proofs.YtgcdbmcoendcdaaGreat
set_option linter.unusedVariables false
set_option linter.unusedSimpArgs false
open Arb
structure EI where
  kind : Int
  at_ : Int
  n : Int
  s : ByteArray
  pats : List MPat
abbrev ET := Arb EI
def EI.node (a : EI) (l : List Int) : MNode := ⟨a.kind, a.at_, a.n, a.s, l, a.pats⟩
def MNode.inf (x : MNode) : EI := ⟨x.kind, x.at_, x.n, x.s, x.pats⟩
theorem EI.node_inf (x : MNode) : x.inf.node x.kids = x := rfl
theorem EI.node_inj (x y : EI) (k l : List Int) (h : x.node k = y.node l) : x = y ∧ k = l := by
  obtain ⟨a, b, c, d, e⟩ := x
  obtain ⟨a', b', c', d', e'⟩ := y
  simp only [EI.node, MNode.mk.injEq] at h
  obtain ⟨rfl, rfl, rfl, rfl, rfl, rfl⟩ := h
  exact ⟨rfl, rfl⟩
inductive EV (a : EI) (l : List ET) : Prop where
  | int : a.kind = 1 → l = [] → 0 ≤ a.n → a.n ≤ 4611686018427387903 → a.s.toList = [] → EV a l
  | str : a.kind = 2 → l = [] → EV a l
  | var : a.kind = 3 → l = [] → nameM a.s = true → EV a l
  | con0 : a.kind = 4 → l = [] → shapeM a.s 0 false = true → EV a l
  | cons (b : EI) (x y : ET) : a.kind = 4 → l = [.mk b [x, y]] → b.kind = 11 → a.s.toList = [58, 58] → EV a l
  | con1 (x : ET) : a.kind = 4 → l = [x] → conM a.s.data.toList = true → EV a l
  | func (x : ET) : a.kind = 5 → l = [x] → nameM a.s = true → EV a l
  | app (x y : ET) : a.kind = 6 → l = [x, y] → a.s.toList = [] → EV a l
  | let_ (x y : ET) : a.kind = 7 → l = [x, y] → nameM a.s = true → EV a l
  | rec_ (b : EI) (x y : ET) : a.kind = 8 → l = [.mk b [x], y] → b.kind = 5 → nameM a.s = true → EV a l
  | if_ (x y z : ET) : a.kind = 9 → l = [x, y, z] → a.s.toList = [] → EV a l
  | prim (x y : ET) : a.kind = 10 → l = [x, y] → primM a.s = true → EV a l
  | pair (x y : ET) : a.kind = 11 → l = [x, y] → a.s.toList = [] → EV a l
  | unit : a.kind = 12 → l = [] → a.s.toList = [] → EV a l
  | mat (x : ET) (r : List ET) : a.kind = 13 → l = x :: r → a.pats.length = r.length → 1 ≤ r.length → a.s.toList = [] → EV a l
  | raise (x : ET) : a.kind = 14 → l = [x] → a.s.toList = [] → EV a l
  | try_ (x y : ET) : a.kind = 15 → l = [x, y] → nameM a.s = true → EV a l
  | ref (x : ET) : a.kind = 16 → l = [x] → a.s.toList = [] → EV a l
  | get (x : ET) : a.kind = 17 → l = [x] → a.s.toList = [] → EV a l
  | set (x y : ET) : a.kind = 18 → l = [x, y] → a.s.toList = [] → EV a l
  | seq (x y : ET) : a.kind = 19 → l = [x, y] → a.s.toList = [] → EV a l
structure okN (a : EI) (l : List ET) : Prop where
  v : EV a l
  at0 : 0 ≤ a.at_
  n0 : a.kind = 1 ∨ a.n = 0
  p0 : a.kind = 13 ∨ a.pats = []
  pm : ∀ q ∈ a.pats, patM q.nodes = true
abbrev okT (t : ET) : Prop := All okN t
theorem two {α : Type} {l : List α} (h : l.length = 2) : ∃ x y, l = [x, y] := by
  match l, h with
  | [x, y], _ => exact ⟨x, y, rfl⟩
theorem one {α : Type} {l : List α} (h : l.length = 1) : ∃ x, l = [x] := by
  match l, h with
  | [x], _ => exact ⟨x, rfl⟩
theorem three {α : Type} {l : List α} (h : l.length = 3) : ∃ x y z, l = [x, y, z] := by
  match l, h with
  | [x, y, z], _ => exact ⟨x, y, z, rfl⟩
structure NP (nodes : List MNode) (a : EI) (k : List Int) : Prop where
  at0 : 0 ≤ a.at_
  ar : arI a.kind < 0 ∨ (k.length : Int) = arI a.kind
  p0 : a.kind = 13 ∨ a.pats = []
  n0 : a.kind = 1 ∨ a.kind = 3 ∨ a.n = 0
  kd : kindI nodes (a.node k) (nameB (a.node k)) = true
  pm : ∀ q ∈ a.pats, patM q.nodes = true
theorem nodeM_np (nodes : List MNode) (a : EI) (k : List Int) : nodeM nodes (a.node k) = true ↔ NP nodes a k ∧ inB nodes k = true := by
  unfold nodeM nodeI EI.node
  simp only [Bool.and_eq_true, Bool.or_eq_true, decide_eq_true_eq, List.all_eq_true]
  constructor
  · rintro ⟨⟨h1, ⟨⟨⟨h2, h3⟩, h4⟩, h5⟩, h6⟩, h7⟩
    exact ⟨⟨h2, h3, h4.imp_right fun h => List.eq_nil_of_length_eq_zero h, h5.elim (fun h => h.elim .inl fun h => .inr (.inl h)) fun h => .inr (.inr h), h6, h7⟩, h1⟩
  · rintro ⟨⟨h2, h3, h4, h5, h6, h7⟩, h1⟩
    exact ⟨⟨h1, ⟨⟨⟨h2, h3⟩, h4.imp_right fun h => by rw [h]; rfl⟩, h5.elim (fun h => .inl (.inl h)) fun h => h.elim (fun h => .inl (.inr h)) .inr⟩, h6⟩, h7⟩
theorem isE_iff (s : ByteArray) : s.toList.isEmpty = true ↔ s.toList = [] := List.isEmpty_iff
theorem kidK_idx {nodes : List MNode} {m : Nat} {b : EI} {l : List ET} {r : List ET} (h : At EI.node nodes m (.mk b l)) (kd : Int) : kidK nodes (idxs m (.mk b l :: r)) kd = (b.kind == kd) := by
  obtain ⟨hm, he⟩ := List.getElem?_eq_some_iff.1 h.root
  rw [kidK_at (by simp [idxs]) hm (by simp [idxs]) kd, he]; rfl
theorem shapeM_0 {s : ByteArray} {p : Bool} (h : shapeM s 0 p = true) : shapeM s 0 false = true := by
  unfold shapeM at h ⊢
  split
  · rfl
  · rename_i h1
    rw [if_neg h1] at h
    split
    · rename_i h2; rw [if_pos h2] at h; simp at h
    · rename_i h2; rw [if_neg h2] at h; exact h
theorem view_of {nodes : List MNode} (hn : nodes.all (nodeM nodes) = true) {m : Nat} {a : EI} {l : List ET} (h : At EI.node nodes m (.mk a l)) : okN a l := by
  have np : ∀ {m : Nat} {a : EI} {l : List ET}, At EI.node nodes m (.mk a l) → NP nodes a (idxs (m + 1) l) := fun h => by
    rw [List.all_eq_true] at hn
    exact ((nodeM_np _ _ _).1 (hn _ (List.mem_of_getElem? h.root))).1
  have N := np h
  have hk := h.kids
  obtain ⟨at0, ar, p0, n0, kd, pm⟩ := N
  rw [idxs_len] at ar
  have hv : EV a l ∧ (a.kind = 3 → a.n = 0) := by
    by_cases hkd : a.kind < 1 ∨ 19 < a.kind
    · exfalso
      unfold kindI EI.node at kd
      simp only at kd
      have e : ∀ z : Int, 1 ≤ z → z ≤ 19 → ¬ a.kind = z := fun z h1 h2 q => by omega
      simp only [e 1 (by omega) (by omega), e 2 (by omega) (by omega), e 3 (by omega) (by omega), e 4 (by omega) (by omega), e 5 (by omega) (by omega), e 7 (by omega) (by omega), e 8 (by omega) (by omega), e 10 (by omega) (by omega), e 13 (by omega) (by omega), e 15 (by omega) (by omega), if_false, false_or, or_self, Bool.and_eq_true, decide_eq_true_eq] at kd
      omega
    · have len : ∀ z : Int, arI a.kind = z → 0 ≤ z → (l.length : Int) = z := fun z h1 h2 => by
        rcases ar with q | q <;> omega
      unfold kindI EI.node nameB at kd
      rcases (show a.kind = 1 ∨ a.kind = 2 ∨ a.kind = 3 ∨ a.kind = 4 ∨ a.kind = 5 ∨ a.kind = 6 ∨ a.kind = 7 ∨ a.kind = 8 ∨ a.kind = 9 ∨ a.kind = 10 ∨ a.kind = 11 ∨ a.kind = 12 ∨ a.kind = 13 ∨ a.kind = 14 ∨ a.kind = 15 ∨ a.kind = 16 ∨ a.kind = 17 ∨ a.kind = 18 ∨ a.kind = 19 by omega) with k | k | k | k | k | k | k | k | k | k | k | k | k | k | k | k | k | k | k
      all_goals
        rw [k] at len
        simp only [k, Int.reduceEq, or_false, false_or, or_true, true_or, if_true, if_false, Bool.and_eq_true, decide_eq_true_eq, isE_iff, reduceIte, false_imp_iff, and_true, true_imp_iff] at kd ⊢
      · exact .int k (List.eq_nil_of_length_eq_zero (by have := len 0 rfl (by omega); omega)) kd.1.1 kd.1.2 kd.2
      · exact .str k (List.eq_nil_of_length_eq_zero (by have := len 0 rfl (by omega); omega))
      · exact ⟨.var k (List.eq_nil_of_length_eq_zero (by have := len 0 rfl (by omega); omega)) kd.1, kd.2⟩
      · rw [idxs_len] at kd
        match l, hk, kd with
        | [], _, kd => exact .con0 k rfl (shapeM_0 kd)
        | [.mk b r], hk, kd =>
          rw [show decide (([Arb.mk b r] : List ET).length = 1) = true from rfl, Bool.true_and, kidK_idx hk.head] at kd
          unfold shapeM at kd
          split at kd
          · simp at kd
          · split at kd
            · rename_i hs
              simp only [List.length_singleton, Bool.and_eq_true, beq_iff_eq] at kd hs
              have N2 := np hk.head
              obtain ⟨x, y, rfl⟩ : ∃ x y, r = [x, y] := two (by
                rcases N2.ar with q | q
                · rw [kd.2] at q; exact absurd q (by decide)
                · rw [kd.2, idxs_len] at q; simp [arI] at q; (try omega))
              exact .cons b x y k rfl kd.2 hs
            · simp only [Bool.and_eq_true] at kd
              exact .con1 _ k rfl kd.1
        | x :: y :: r, hk, kd =>
          exfalso
          unfold shapeM at kd
          simp only [List.length_cons] at kd
          split at kd
          · simp at kd; (try omega)
          · split at kd
            · simp at kd; (try omega)
            · simp at kd; (try omega)
      · obtain ⟨x, rfl⟩ := one (l := l) (by have := len 1 rfl (by omega); omega)
        exact .func x k rfl kd.1
      · obtain ⟨x, y, rfl⟩ := two (l := l) (by have := len 2 rfl (by omega); omega)
        exact .app x y k rfl (by simpa [isE_iff] using kd)
      · obtain ⟨x, y, rfl⟩ := two (l := l) (by have := len 2 rfl (by omega); omega)
        exact .let_ x y k rfl kd.1
      · obtain ⟨x, y, rfl⟩ := two (l := l) (by have := len 2 rfl (by omega); omega)
        obtain ⟨b, r⟩ := x
        rw [kidK_idx hk.head] at kd
        have hb : b.kind = 5 := by simpa using kd.2
        have N2 := np hk.head
        obtain ⟨x, rfl⟩ : ∃ x, r = [x] := one (by
          rcases N2.ar with q | q
          · rw [hb] at q; exact absurd q (by decide)
          · rw [hb, idxs_len] at q; simp [arI] at q; (try omega))
        exact .rec_ b x y k rfl hb kd.1.1
      · obtain ⟨x, y, z, rfl⟩ := three (l := l) (by have := len 3 rfl (by omega); omega)
        exact .if_ x y z k rfl (by simpa [isE_iff] using kd)
      · obtain ⟨x, y, rfl⟩ := two (l := l) (by have := len 2 rfl (by omega); omega)
        exact .prim x y k rfl kd
      · obtain ⟨x, y, rfl⟩ := two (l := l) (by have := len 2 rfl (by omega); omega)
        exact .pair x y k rfl (by simpa [isE_iff] using kd)
      · exact .unit k (List.eq_nil_of_length_eq_zero (by have := len 0 rfl (by omega); omega)) (by simpa [isE_iff] using kd)
      · rw [idxs_len] at kd
        match l, kd with
        | [], kd => exact absurd kd.2 (by simp)
        | x :: r, kd =>
          have h2 := kd.2
          rw [List.length_cons] at h2
          exact .mat x r k rfl (by omega) (by have := kd.1.2; omega) kd.1.1
      · obtain ⟨x, rfl⟩ := one (l := l) (by have := len 1 rfl (by omega); omega)
        exact .raise x k rfl (by simpa [isE_iff] using kd)
      · obtain ⟨x, y, rfl⟩ := two (l := l) (by have := len 2 rfl (by omega); omega)
        exact .try_ x y k rfl kd.1
      · obtain ⟨x, rfl⟩ := one (l := l) (by have := len 1 rfl (by omega); omega)
        exact .ref x k rfl (by simpa [isE_iff] using kd)
      · obtain ⟨x, rfl⟩ := one (l := l) (by have := len 1 rfl (by omega); omega)
        exact .get x k rfl (by simpa [isE_iff] using kd)
      · obtain ⟨x, y, rfl⟩ := two (l := l) (by have := len 2 rfl (by omega); omega)
        exact .set x y k rfl (by simpa [isE_iff] using kd)
      · obtain ⟨x, y, rfl⟩ := two (l := l) (by have := len 2 rfl (by omega); omega)
        exact .seq x y k rfl (by simpa [isE_iff] using kd)
  refine ⟨hv.1, at0, ?_, p0, pm⟩
  rcases n0 with q | q | q
  · exact .inl q
  · exact .inr (hv.2 q)
  · exact .inr q
theorem inB_idx {nodes : List MNode} : ∀ {l : List ET} {m : Nat}, AtL EI.node nodes m l → inB nodes (idxs m l) = true
  | [], m, h => rfl
  | t :: l, m, h => by
    have h1 := h.head.lt
    have h2 := inB_idx h.tail
    unfold inB at h2 ⊢
    rw [idxs, List.all_cons, h2, decide_eq_true (by omega), decide_eq_true (by omega)]; rfl
theorem conM_ne {s : ByteArray} (h : conM s.data.toList = true) : ¬ (s.toList = [116, 114, 117, 101] ∨ s.toList = [102, 97, 108, 115, 101] ∨ s.toList = [91, 93] ∨ s.toList = [58, 58]) := by
  have hd : s.toList = s.data.toList := by rw [ByteArray.toList_eq]
  rw [hd]
  rintro (q | q | q | q) <;> (rw [q] at h; revert h; decide)
theorem shapeM_1 {s : ByteArray} {p : Bool} (h : conM s.data.toList = true) : shapeM s 1 p = true := by
  have := conM_ne h
  simp only [not_or] at this
  unfold shapeM
  simp [this, h]
theorem node_of {nodes : List MNode} {m : Nat} {a : EI} {l : List ET} (h : At EI.node nodes m (.mk a l)) (hv : okN a l) : nodeM nodes (a.node (idxs (m + 1) l)) = true := by
  refine (nodeM_np _ _ _).2 ⟨?_, inB_idx h.kids⟩
  obtain ⟨v, at0, n0, p0, pm⟩ := hv
  have hk := h.kids
  have hl := idxs_len (m + 1) l
  refine ⟨at0, ?_, p0, n0.imp_right .inr, ?_, pm⟩
  · cases v with
    | mat x r k e _ _ _ => exact .inl (by rw [k]; decide)
    | con0 k e _ => exact .inl (by rw [k]; decide)
    | cons b x y k e _ _ => exact .inl (by rw [k]; decide)
    | con1 x k e _ => exact .inl (by rw [k]; decide)
    | int k e _ _ _ => right; rw [hl, k, e]; rfl
    | str k e => right; rw [hl, k, e]; rfl
    | rec_ b x y k e _ _ => right; rw [hl, k, e]; rfl
    | _ =>
      rename_i k e _
      right; rw [hl, k, e]; rfl
  · unfold kindI EI.node nameB
    have n1 : a.kind = 1 ∨ decide (a.n = 0) = true := n0.imp_right fun q => decide_eq_true q
    cases v with
    | int k e h1 h2 h3 => simp [k, h1, h2, h3]
    | str k e => simp [k]
    | var k e h1 => simp only [k] at n1; simp [k, h1]; simpa using n1
    | con0 k e h1 =>
      subst e
      simp only [k]
      simpa [idxs] using h1
    | cons b x y k e h1 h2 =>
      subst e
      simp only [k]
      rw [idxs_len, kidK_idx hk.head 11]
      simp [shapeM, h2, h1]
    | con1 x k e h1 =>
      subst e
      simp only [k]
      rw [idxs_len]
      simp [shapeM_1 h1]
    | rec_ b x y k e h1 h2 =>
      subst e
      simp only [k] at n1 ⊢
      rw [kidK_idx hk.head 5]
      simp [h1, h2]; simpa using n1
    | func x k e h1 => simp only [k] at n1; simp [k, h1]; simpa using n1
    | let_ x y k e h1 => simp only [k] at n1; simp [k, h1]; simpa using n1
    | try_ x y k e h1 => simp only [k] at n1; simp [k, h1]; simpa using n1
    | prim x y k e h1 => simp [k, h1]
    | mat x r k e h1 h2 h3 =>
      subst e
      simp only [k]
      rw [idxs_len]
      simp [h3, h1]; omega
    | _ => rename_i k e h1; simp [k, h1]
theorem tree_of {p : MProgram} (h : progM p = true) : ∃ t : ET, p.nodes = Arb.lay EI.node 0 t ∧ okT t ∧ t.size ≤ 600 ∧ p.types.length ≤ 8 ∧ p.types.all typeM = true := by
  unfold progM at h
  simp only [Bool.and_eq_true, decide_eq_true_eq] at h
  obtain ⟨⟨⟨⟨⟨h1, h2⟩, h3⟩, h4⟩, h5⟩, h6⟩ := h
  obtain ⟨t, ht⟩ := grow_all (f := EI.node) (ks := fun n : MNode => n.kids) (inf := MNode.inf) EI.node_inf h6
  refine ⟨t, ht, ?_, ?_, h3, h4⟩
  · have := At.zero (f := EI.node) t
    rw [← ht] at this
    exact all_of t 0 this fun j x l hj => view_of h5 hj
  · have := congrArg List.length ht
    rw [Arb.lay_len] at this
    omega
theorem prog_of {ts : List MType} {t : ET} (h1 : okT t) (h2 : t.size ≤ 600) (h3 : ts.length ≤ 8) (h4 : ts.all typeM = true) : progM ⟨ts, Arb.lay EI.node 0 t⟩ = true := by
  unfold progM
  have hp := size_pos t
  simp only [Bool.and_eq_true, decide_eq_true_eq, Arb.lay_len]
  refine ⟨⟨⟨⟨⟨hp, h2⟩, h3⟩, h4⟩, ?_⟩, order_lay (f := EI.node) (ks := fun n : MNode => n.kids) (fun _ _ => rfl) t⟩
  rw [List.all_eq_true]
  intro x hx
  obtain ⟨j, hj, rfl⟩ := List.getElem_of_mem hx
  rw [Arb.lay_len] at hj
  obtain ⟨a, l, hA, hO⟩ := at_of t 0 (At.zero (f := EI.node) t) h1 j (Nat.zero_le _) (by omega)
  have := (List.getElem?_eq_some_iff.1 hA.root).2
  rw [this]
  exact node_of hA hO.root
theorem kind_of {a : EI} {l : List ET} (h : okN a l) : 1 ≤ a.kind ∧ a.kind ≤ 19 := by
  obtain ⟨v, -⟩ := h
  cases v <;> omega
end Go.Proofs.YtgcdbmcoendcdaaGreat

namespace Go.Proofs.YtgcdbmcoendcdaaGreat
set_option linter.unusedVariables false
set_option linter.unusedSimpArgs false
open Go.RowKit
theorem run_eql_nil {P : Program} (w : World) (t e : TypeId) (a : Option Addr) (l c : Nat) (h : P.underlying t = some (.slice e)) : (binOp .eql t (.slice a l c) (.slice none 0 0)).run P w = .ok (.bool a.isNone) w := by
  simp [binOp, run_equal_slice_nil w t e a l c h]
def cl0Post (E : TypeId) (w : World) (e : Ending) (w' : World) : Prop := (e = .returned (.slice none 0 0) ∧ w' = w) ∨ (e = .returned (.slice (some ⟨w.heap.size, 0, none⟩) 0 0) ∧ w' = w.alloc (.cells #[] E))
theorem FCon.cl0 {P : Program} {f : FuncId} {fn : Func} {c : Code} (hf : P.funcs[f]? = some fn) (hname : (fn.name == "runtime.NumGoroutine") = false) (hb : fn.body = some c) {E k : Nat}
    (h : ∀ (w : World) (a : Option Addr) (c : Nat), Calls P f #[.slice a 0 c] w (fun e w' => cl0Post E w e w')) : FCon P f [.sl k []] (fun r _ => r = .osl E k []) := by
  refine ⟨fun vs w => ?_, fun w g vs hS hu hl' hv => ?_⟩
  · have hname' : ¬ fn.name = "runtime.NumGoroutine" := by simpa using hname
    have hbn : ¬ fn.body = none := by rw [hb]; simp
    simp [callFunc, hf, hname', hbn]
  · obtain ⟨v, rfl, hv2⟩ := one_arg (P := fun j d u => RA g w j d u) hl' hv
    have hv3 : Rep g.S g.up w (some (.par 0 0)) (.sl k []) v := hv2
    obtain ⟨a, c, rfl⟩ : ∃ a c, v = .slice a 0 c := by
      clear hv hv2
      cases hv3 with
      | sl0 _ => exact ⟨_, _, rfl⟩
      | sl us h1 h2 h3 h4 h5 => exact ⟨_, _, rfl⟩
    refine (h w a c).mono ?_
    rintro e w' (⟨rfl, rfl⟩ | ⟨rfl, rfl⟩)
    · exact ⟨_, ⟨fun _ => none, fun _ => 0, fun _ => none, g.S⟩, _, [], rfl, Below.refl _ _, fun _ _ _ => rfl, fun _ q => q, fun _ _ q => .inl q, hS, fun b p q => (by cases q), rfl, (Rep.osl0 : Rep _ _ _ (some (.ans 0 0)) (.osl E k []) _), fun j d u q => (by simp at q)⟩
    · have hz : ∀ b, b < w.heap.size → (w.alloc (.cells #[] E)).heap[b]? = w.heap[b]? := fun b hb => by
        show (w.heap.push _)[b]? = _; rw [Array.getElem?_push_lt hb, Array.getElem?_eq_getElem hb]
      have hn : (w.alloc (.cells #[] E)).heap[w.heap.size]? = some (.cells #[] E (0, 0)) := by
        exact Array.getElem?_push_size
      have hs : (w.alloc (.cells #[] E)).heap.size = w.heap.size + 1 := Array.size_push ..
      refine ⟨_, ⟨fun _ => none, fun _ => 0, fun b => if b = w.heap.size then some (.ans 0 0) else none, g.S⟩, _, [], rfl, (Below.refl 0 w).alloc (Nat.zero_le _) _, fun b hb _ => hz b hb, fun _ q => q, fun _ _ q => .inl q, fun b q => by have := hS b q; omega, fun b p q => ?_, rfl, ?_, fun j d u q => (by simp at q)⟩
      · simp only at q
        split at q
        · rename_i e; subst e
          exact ⟨by omega, fun q => by omega, fun q => by have := hS _ q; omega⟩
        · cases q
      · show Rep g.S _ _ (some (.ans 0 0)) (.osl E k []) _
        exact Rep.osl (b := w.heap.size) (c := 0) #[] (if_pos rfl) hn (Nat.le_refl _) (by decide) (by simp) (fun i row q => by simp at q) (fun i j row d q => by simp at q)
theorem FCon.cl0I {P : Program} {f : FuncId} {E k : Nat} {rows : List (List D)} (h0 : rows = [] → FCon P f [.sl k []] (fun r _ => r = .osl E k [])) (h1 : rows.isEmpty = false → FCon P f [.sl k rows] (fun r _ => r = .osl E k rows)) : FCon P f [.sl k rows] (fun r _ => r = .osl E k rows) := by
  cases rows with
  | nil => exact h0 rfl
  | cons r l => exact h1 rfl
theorem clone0_int (w : World) (a : Option Addr) (c : Nat) : Calls Tryz.prog 221 #[.slice a 0 c] w fun e w' => cl0Post 3 w e w' := by
  have hnil := run_eql_nil (P := Tryz.prog) w 53 3 a 0 c Tryz.underlying53
  cases a with
  | none =>
    go_enter Tryz.func221, Tryz.ntmps221
    go_wp2
    go_ret
    exact .inl ⟨rfl, rfl⟩
  | some ad =>
    go_enter Tryz.func221, Tryz.ntmps221
    go_wp2
    go_ret
    exact .inr ⟨rfl, rfl⟩
theorem c_CloneR_int (rows : List (List D)) (hk : ∀ r ∈ rows, r.length = 1) (hl : rows.length ≤ 1000000000) : FCon Tryz.prog 221 [.sl 1 rows] (fun r _ => r = .osl 3 1 rows) := by
  refine FCon.cl0I (fun _ => FCon.cl0 Tryz.func221 rfl rfl clone0_int) fun he => ?_
  refine FCon.intro PM _ Tryz.func221 (by kernel_rfl) rfl _ Tryz.ntmps221 rfl [] (by decide +kernel) (by simp) (by simp) rfl (by first | rfl | simp only [go_sem]) ?_
  (have hWf := WFx.mk @he; repeat' (first | refine zS ?_ | exact zE | with_reducible apply And.intro | with_reducible exact zB0 | with_reducible refine zB fun hb => ?_ | exact zC | refine zT ?_ | fail))
  all_goals first | exact ⟨_, rfl⟩ | skip
theorem c_Clone_int (xs : List Int) (hl : xs.length ≤ 1000000000) : FCon Tryz.prog 221 [.sl 1 (xs.map iE)] (fun r _ => r = .osl 3 1 (xs.map iE)) := c_CloneR_int (xs.map iE) (fun r hr => by obtain ⟨y, _, rfl⟩ := List.mem_map.1 hr; rfl) (by simpa using hl)
theorem clone0_TyItem (w : World) (a : Option Addr) (c : Nat) : Calls Tryz.prog 161 #[.slice a 0 c] w fun e w' => cl0Post 159 w e w' := by
  have hnil := run_eql_nil (P := Tryz.prog) w 64 159 a 0 c Tryz.underlying64
  cases a with
  | none =>
    go_enter Tryz.func161, Tryz.ntmps161
    go_wp2
    go_ret
    exact .inl ⟨rfl, rfl⟩
  | some ad =>
    go_enter Tryz.func161, Tryz.ntmps161
    go_wp2
    go_ret
    exact .inr ⟨rfl, rfl⟩
theorem c_CloneR_TyItem (rows : List (List D)) (hk : ∀ r ∈ rows, r.length = 3) (hl : rows.length ≤ 1000000000) : FCon Tryz.prog 161 [.sl 3 rows] (fun r _ => r = .osl 159 3 rows) := by
  refine FCon.cl0I (fun _ => FCon.cl0 Tryz.func161 rfl rfl clone0_TyItem) fun he => ?_
  refine FCon.intro PM _ Tryz.func161 (by kernel_rfl) rfl _ Tryz.ntmps161 rfl [] (by decide +kernel) (by simp) (by simp) rfl (by first | rfl | simp only [go_sem]) ?_
  (have hWf := WFx.mk @he; repeat' (first | refine zS ?_ | exact zE | with_reducible apply And.intro | with_reducible exact zB0 | with_reducible refine zB fun hb => ?_ | exact zC | refine zT ?_ | fail))
  all_goals first | exact ⟨_, rfl⟩ | skip
theorem c_Clone_TyItem (xs : List TyI) (hl : xs.length ≤ 1000000000) : FCon Tryz.prog 161 [.sl 3 (xs.map TyI.enc)] (fun r _ => r = .osl 159 3 (xs.map TyI.enc)) := c_CloneR_TyItem (xs.map TyI.enc) (fun r hr => by obtain ⟨y, _, rfl⟩ := List.mem_map.1 hr; rfl) (by simpa using hl)
theorem clone0_PNode (w : World) (a : Option Addr) (c : Nat) : Calls Tryz.prog 220 #[.slice a 0 c] w fun e w' => cl0Post 126 w e w' := by
  have hnil := run_eql_nil (P := Tryz.prog) w 87 126 a 0 c Tryz.underlying87
  cases a with
  | none =>
    go_enter Tryz.func220, Tryz.ntmps220
    go_wp2
    go_ret
    exact .inl ⟨rfl, rfl⟩
  | some ad =>
    go_enter Tryz.func220, Tryz.ntmps220
    go_wp2
    go_ret
    exact .inr ⟨rfl, rfl⟩
theorem c_CloneR_PNode (rows : List (List D)) (hk : ∀ r ∈ rows, r.length = 4) (hl : rows.length ≤ 1000000000) : FCon Tryz.prog 220 [.sl 4 rows] (fun r _ => r = .osl 126 4 rows) := by
  refine FCon.cl0I (fun _ => FCon.cl0 Tryz.func220 rfl rfl clone0_PNode) fun he => ?_
  refine FCon.intro PM _ Tryz.func220 (by kernel_rfl) rfl _ Tryz.ntmps220 rfl [] (by decide +kernel) (by simp) (by simp) rfl (by first | rfl | simp only [go_sem]) ?_
  (have hWf := WFx.mk @he; repeat' (first | refine zS ?_ | exact zE | with_reducible apply And.intro | with_reducible exact zB0 | with_reducible refine zB fun hb => ?_ | exact zC | refine zT ?_ | fail))
  all_goals first | exact ⟨_, rfl⟩ | skip
theorem c_Clone_PNode (xs : List DPNode) (hl : xs.length ≤ 1000000000) : FCon Tryz.prog 220 [.sl 4 (xs.map DPNode.enc)] (fun r _ => r = .osl 126 4 (xs.map DPNode.enc)) := c_CloneR_PNode (xs.map DPNode.enc) (fun r hr => by obtain ⟨y, _, rfl⟩ := List.mem_map.1 hr; rfl) (by simpa using hl)
theorem clone0_Con (w : World) (a : Option Addr) (c : Nat) : Calls Tryz.prog 160 #[.slice a 0 c] w fun e w' => cl0Post 68 w e w' := by
  have hnil := run_eql_nil (P := Tryz.prog) w 61 68 a 0 c Tryz.underlying61
  cases a with
  | none =>
    go_enter Tryz.func160, Tryz.ntmps160
    go_wp2
    go_ret
    exact .inl ⟨rfl, rfl⟩
  | some ad =>
    go_enter Tryz.func160, Tryz.ntmps160
    go_wp2
    go_ret
    exact .inr ⟨rfl, rfl⟩
theorem c_CloneR_Con (rows : List (List D)) (hk : ∀ r ∈ rows, r.length = 3) (hl : rows.length ≤ 1000000000) : FCon Tryz.prog 160 [.sl 3 rows] (fun r _ => r = .osl 68 3 rows) := by
  refine FCon.cl0I (fun _ => FCon.cl0 Tryz.func160 rfl rfl clone0_Con) fun he => ?_
  refine FCon.intro PM _ Tryz.func160 (by kernel_rfl) rfl _ Tryz.ntmps160 rfl [] (by decide +kernel) (by simp) (by simp) rfl (by first | rfl | simp only [go_sem]) ?_
  (have hWf := WFx.mk @he; repeat' (first | refine zS ?_ | exact zE | with_reducible apply And.intro | with_reducible exact zB0 | with_reducible refine zB fun hb => ?_ | exact zC | refine zT ?_ | fail))
  all_goals first | exact ⟨_, rfl⟩ | skip
theorem c_Clone_Con (xs : List MCon) (hl : xs.length ≤ 1000000000) : FCon Tryz.prog 160 [.sl 3 (xs.map MCon.enc)] (fun r _ => r = .osl 68 3 (xs.map MCon.enc)) := c_CloneR_Con (xs.map MCon.enc) (fun r hr => by obtain ⟨y, _, rfl⟩ := List.mem_map.1 hr; rfl) (by simpa using hl)
end Go.Proofs.YtgcdbmcoendcdaaGreat

namespace Go.Proofs.YtgcdbmcoendcdaaGreat
set_option linter.unusedVariables false
set_option linter.unusedSimpArgs false
open Go.RowKit
def mixR {α : Type} (f g : α → List D) (l : List α) (k : Nat) : List (List D) := (l.take k).map f ++ (l.drop k).map g
section
variable {α : Type} {f g : α → List D} {l : List α} {k : Nat}
theorem mixR_zero : mixR f g l 0 = l.map g := rfl
theorem mixR_all : mixR f g l l.length = l.map f := by unfold mixR; rw [List.take_length, List.drop_length]; simp
theorem mixR_len : (mixR f g l k).length = l.length := by unfold mixR; rw [List.length_append, List.length_map, List.length_map, List.length_take, List.length_drop]; simp only [Nat.min_def]; split <;> omega
theorem mixR_get (h : k < l.length) : (mixR f g l k).getD k [] = g l[k] := by
  unfold mixR
  have : ((l.take k).map f).length = k := by rw [List.length_map, List.length_take]; omega
  rw [List.getD_eq_getElem?_getD, List.getElem?_append_right (by omega), this, Nat.sub_self, List.getElem?_map, List.getElem?_drop, Nat.add_zero, List.getElem?_eq_getElem h]; rfl
theorem mixR_set (h : k < l.length) : (mixR f g l k).set k (f l[k]) = mixR f g l (k + 1) := by
  unfold mixR
  have e : ((l.take k).map f).length = k := by rw [List.length_map, List.length_take]; omega
  rw [List.set_append_right _ _ (by omega), e, Nat.sub_self, List.drop_eq_getElem_cons h, List.map_cons, List.set_cons_zero, List.take_succ_eq_append_getElem h, List.map_append]
  simp
end
theorem c_copyPat (xs : List DPNode) (hl : xs.length ≤ 1000000) (hk : ∀ x ∈ xs, x.kids.length ≤ 1000000) : FCon Tryz.prog 162 [.ag [.sl 4 (xs.map DPNode.enc)]] (fun r _ => r = .ag [.osl 126 4 (xs.map DPNode.own)]) := by
  refine FCon.intro PM _ Tryz.func162 (by kernel_rfl) rfl _ Tryz.ntmps162 rfl [(5, 6, [5], [(5, 0), (5, 1), (5, 2)], (lin [5] [0, 1, 2, 3, 4, 5]))] (by decide +kernel) (by simp) (by simp) rfl (by first | rfl | simp only [go_sem]) ?_
  (have hWf := f0; repeat' (first | refine zS ?_ | exact zE | with_reducible apply And.intro | ((with_reducible apply q_CallG); refine zG (c_Clone_PNode xs (by omega)) ?_) | ((with_reducible apply q_CallQ); refine CallQ_mk (c_Clone_PNode xs (by omega)) ?_) | with_reducible exact zB0 | with_reducible refine zB fun hb => ?_ | exact zC | refine zT ?_ | fail))
  refine AC_loop (fun n σ => ∃ k : Nat, k ≤ xs.length ∧ n = xs.length - k ∧ σ.t 2 = .bx 2 0 ∧ σ.b 2 = some (.box [.nil]) ∧ σ.t 3 = .bx 3 0 ∧ σ.b 3 = some (.box [.bs 1008 4 xs.length]) ∧ σ.t 11 = .bs 1008 4 xs.length ∧ σ.b 1008 = some (.arr 126 4 (mixR DPNode.own DPNode.enc xs k)) ∧ σ.t 12 = .s (.int .i64 xs.length) ∧ σ.t 13 = .s (.int .i64 k)) xs.length ⟨0, by omega, by omega, ?_⟩ ?_
  · simp only [go_sem, simprocAttr, Int.natCast_zero, mixR_zero]
  · rintro n σ ⟨k, hk2, rfl, h2, b2, h3, b3, h11, b1, h12, h13⟩ K' hK
    have hml := mixR_len (f := DPNode.own) (g := DPNode.enc) (l := xs) (k := k)
    by_cases hlt : k < xs.length
    · have hx := mixR_get (f := DPNode.own) (g := DPNode.enc) hlt
      have he := DPNode.enc_eq xs[k]
      have hst := mixR_set (f := DPNode.own) (g := DPNode.enc) hlt
      rw [DPNode.own_eq] at hst
      have hcl := c_Clone_int xs[k].kids (by have := hk _ (List.getElem_mem hlt); omega)
      (have hWf := WFx.mk (ai @h2 <| ai @b2 <| ai @h3 <| ai @b3 <| ai @h11 <| ai @b1 <| ai @h12 <| ai @h13 <| ai @hx <| ai @he <| ai @hml <| @hst); repeat' (first | refine zS ?_ | exact zE | with_reducible apply And.intro | ((with_reducible apply q_CallE); refine CallE_mk (FCon.noout hcl) ?_) | ((with_reducible apply q_CallG); refine zG (hcl) ?_) | with_reducible exact zB0 | with_reducible refine zB fun hb => ?_ | exact zC | refine zT ?_ | fail))
      refine hK (xs.length - (k + 1)) _ (by omega) ⟨k + 1, by omega, rfl, ?_⟩
      simp only [go_sem, simprocAttr, h2, b2, h3, b3, h11, b1, h12, h13, Int.natCast_succ, hst]
    · obtain rfl : k = xs.length := by omega
      rw [mixR_all] at b1
      (have hWf := WFx.mk (ai @h2 <| ai @b2 <| ai @h3 <| ai @b3 <| ai @h11 <| ai @b1 <| ai @h12 <| @h13); repeat' (first | refine zS ?_ | exact zE | with_reducible apply And.intro | with_reducible exact zB0 | with_reducible refine zB fun hb => ?_ | exact zC | refine zT ?_ | fail))
theorem c_copyPats (qs : List MPat) (hl : qs.length ≤ 1000000) (hk : ∀ q ∈ qs, q.nodes.length ≤ 1000000 ∧ ∀ x ∈ q.nodes, x.kids.length ≤ 1000000) : FCon Tryz.prog 79 [.sl 1 (qs.map MPat.enc)] (fun r _ => r = .osl 89 1 (qs.map MPat.own)) := by
  refine FCon.intro PM _ Tryz.func79 (by kernel_rfl) rfl _ Tryz.ntmps79 rfl [] (by decide +kernel) (by simp) (by simp) rfl (by first | rfl | simp only [go_sem]) ?_
  (have hWf := f0; repeat' (first | refine zS ?_ | exact zE | with_reducible apply And.intro | with_reducible exact zB0 | with_reducible refine zB fun hb => ?_ | exact zC | refine zT ?_ | fail))
  refine AC_loop (fun n σ => ∃ k : Nat, k ≤ qs.length ∧ n = qs.length - k ∧ σ.t 3 = .bs 6 1 k ∧ σ.b 6 = some (.arr 89 1 ((qs.take k).map MPat.own)) ∧ σ.t 7 = .sl 1 (qs.map MPat.enc) ∧ σ.t 8 = .s (.int .i64 qs.length) ∧ σ.t 9 = .s (.int .i64 k)) qs.length ⟨0, by omega, by omega, ?_⟩ ?_
  · simp only [go_sem, simprocAttr, Int.natCast_zero, List.take_zero]
  · rintro n σ ⟨k, hk2, rfl, h3, b6, h7, h8, h9⟩ K' hK
    by_cases hlt : k < qs.length
    · have hx := getD_map MPat.enc qs k hlt
      have he := MPat.enc_eq qs[k]
      have ho := MPat.own_eq qs[k]
      have htl : (qs.take k).length = k := by rw [List.length_take]; omega
      have hts := List.take_succ_eq_append_getElem hlt
      have hkk := hk _ (List.getElem_mem hlt)
      (have hWf := WFx.mk (ai @h3 <| ai @b6 <| ai @h7 <| ai @h8 <| ai @h9 <| ai @hx <| ai @he <| @htl); repeat' (first | refine zS ?_ | exact zE | with_reducible apply And.intro | refine zK (c_copyPat qs[k].nodes hkk.1 hkk.2) ?_ | with_reducible exact zB0 | with_reducible refine zB fun hb => ?_ | exact zC | refine zT ?_ | fail))
      refine hK (qs.length - (k + 1)) _ (by omega) ⟨k + 1, by omega, rfl, ?_⟩
      simp only [go_sem, simprocAttr, h3, b6, h7, h8, h9, Int.natCast_succ, hts, List.map_append, ho]
    · obtain rfl : k = qs.length := by omega
      rw [List.take_length] at b6
      (have hWf := WFx.mk (ai @h3 <| ai @b6 <| ai @h7 <| ai @h8 <| @h9); repeat' (first | refine zS ?_ | exact zE | with_reducible apply And.intro | with_reducible exact zB0 | with_reducible refine zB fun hb => ?_ | exact zC | refine zT ?_ | fail))
end Go.Proofs.YtgcdbmcoendcdaaGreat

namespace Go.Proofs.YtgcdbmcoendcdaaGreat
set_option linter.unusedVariables false
set_option linter.unusedSimpArgs false
open Go.RowKit Arb
mutual
def exO : ET → D
  | .mk a l => .opt [.s (.int .i64 a.kind), .s (.int .i64 a.at_), .s (.int .i64 a.n), .s (.string a.s), .osl 72 1 (exOL l), .osl 89 1 (a.pats.map MPat.own)]
def exOL : List ET → List (List D)
  | [] => []
  | t :: l => [exO t] :: exOL l
end
mutual
def exE : ET → D
  | .mk a l => .pt [.s (.int .i64 a.kind), .s (.int .i64 a.at_), .s (.int .i64 a.n), .s (.string a.s), .sl 1 (exEL l), .sl 1 (a.pats.map MPat.enc)]
def exEL : List ET → List (List D)
  | [] => []
  | t :: l => [exE t] :: exEL l
end
def exR (t : ET) : List D := [exO t]
def exS (t : ET) : List D := [exE t]
theorem exOL_map (l : List ET) : exOL l = l.map exR := by
  induction l with
  | nil => rfl
  | cons t l ih => rw [exOL, ih]; rfl
theorem exEL_map (l : List ET) : exEL l = l.map exS := by
  induction l with
  | nil => rfl
  | cons t l ih => rw [exEL, ih]; rfl
theorem exO_mk (a : EI) (l : List ET) : exO (.mk a l) = .opt [.s (.int .i64 a.kind), .s (.int .i64 a.at_), .s (.int .i64 a.n), .s (.string a.s), .osl 72 1 (l.map exR), .osl 89 1 (a.pats.map MPat.own)] := by rw [exO, exOL_map]
theorem exE_mk (a : EI) (l : List ET) : exE (.mk a l) = .pt [.s (.int .i64 a.kind), .s (.int .i64 a.at_), .s (.int .i64 a.n), .s (.string a.s), .sl 1 (l.map exS), .sl 1 (a.pats.map MPat.enc)] := by rw [exE, exEL_map]
theorem ex_frz : ∀ t : ET, frz (exO t) = exE t := fun t => by
  induction t using Arb.ind with
  | h a l ih =>
    rw [exO_mk, exE_mk]
    have : frzLL (l.map exR) = l.map exS := by
      rw [frzLL_map, List.map_map]
      refine List.map_congr_left fun x hx => ?_
      show frzL (exR x) = exS x
      simp only [exR, exS, frzL, ih x hx]
    simp only [frz, frzL, this, MPat.frzS]
def patsB (qs : List MPat) : Prop := qs.length ≤ 1000000 ∧ ∀ q ∈ qs, q.nodes.length ≤ 1000000 ∧ ∀ x ∈ q.nodes, x.kids.length ≤ 1000000
theorem c_grow (nodes : List MNode) (hl : nodes.length ≤ 1000000) : ∀ (t : ET) (m : Nat), At EI.node nodes m t → All (fun a _ => patsB a.pats) t → FCon Tryz.prog 31 [.sl 6 (nodes.map MNode.enc), .s (.int .i64 m)] (fun r _ => r = exO t) := fun t => by
  induction t using Arb.ind with
  | h a l ih =>
    intro m hA hp
    obtain ⟨hm, hr⟩ := List.getElem?_eq_some_iff.1 hA.root
    have hx := getD_map MNode.enc nodes m hm
    have he : (a.node (idxs (m + 1) l)).enc = [.s (.int .i64 a.kind), .s (.int .i64 a.at_), .s (.int .i64 a.n), .s (.string a.s), .sl 1 ((idxs (m + 1) l).map iE), .sl 1 (a.pats.map MPat.enc)] := rfl
    rw [hr] at hx
    have hpp := hp.root
    have hil := idxs_len (m + 1) l
    have hll : l.length ≤ 1000000 := by
      have h1 := hA.bd
      have h2 := sizeL_len l
      rw [size_mk] at h1
      omega
    rw [exO_mk]
    refine FCon.intro PM _ Tryz.func31 (by kernel_rfl) rfl _ Tryz.ntmps31 rfl [(2, 11, [10], [(10, 0), (10, 1), (10, 2), (10, 3), (10, 4), (10, 5), (10, 6), (10, 7)], (lin [10] [0, 1, 2, 3, 4, 5, 6, 7, 8, 9, 10])), (6, 10, [7, 8, 9], [(7, 0), (7, 1), (7, 2), (7, 3), (7, 4), (8, 0), (8, 1), (8, 2), (8, 3), (8, 4), (9, 0)], (lin [7, 8, 9] [0, 1, 2, 3, 4, 5, 6, 7, 8, 9]))] (by decide +kernel) (by simp) (by simp) rfl (by first | rfl | simp only [go_sem]) ?_
    (have hWf := WFx.mk (ai @hx <| ai @he <| @hil); repeat' (first | refine zS ?_ | exact zE | with_reducible apply And.intro | ((with_reducible apply q_CallE); refine CallE_mk (FCon.noout (c_copyPats a.pats hpp.1 hpp.2)) ?_) | ((with_reducible apply q_CallG); refine zG (c_copyPats a.pats hpp.1 hpp.2) ?_) | with_reducible exact zB0 | with_reducible refine zB fun hb => ?_ | exact zC | refine zT ?_ | fail))
    refine ACL_ac (AC_nil 25 4 777 (row := [.s (.int .i64 a.kind), .s (.int .i64 a.at_), .s (.int .i64 a.n), .s (.string a.s), .nil, .bs 1023 1 a.pats.length]) 72 1 (by simp only [go_sem, simprocAttr]) rfl (by decide) rfl (AC_go ?_))
    simp only [go_sem, simprocAttr]
    refine AC_loop (fun n σ => ∃ k : Nat, k ≤ l.length ∧ n = l.length - k ∧ σ.t 0 = .sl 6 (nodes.map MNode.enc) ∧ σ.t 6 = .bx 25 0 ∧ σ.t 27 = .sl 1 ((idxs (m + 1) l).map iE) ∧ σ.t 28 = .s (.int .i64 l.length) ∧ σ.t 29 = .s (.int .i64 k) ∧
      σ.b 25 = some (.box [.s (.int .i64 a.kind), .s (.int .i64 a.at_), .s (.int .i64 a.n), .s (.string a.s), .bs 777 1 k, .bs 1023 1 a.pats.length]) ∧ σ.b 777 = some (.arr 72 1 ((l.take k).map exR)) ∧ σ.b 1023 = some (.arr 89 1 (a.pats.map MPat.own))) l.length ⟨0, by omega, by omega, ?_⟩ ?_
    · simp only [go_sem, simprocAttr, Int.natCast_zero, List.take_zero]
    · rintro n σ ⟨k, hk, rfl, h0, h6, h27, h28, h29, b25, b7, b1⟩ K' hK
      by_cases hlt : k < l.length
      · have hlt2 : k < (idxs (m + 1) l).length := by rw [hil]; exact hlt
        have hx2 := getD_map iE (idxs (m + 1) l) k hlt2
        have he2 : iE (idxs (m + 1) l)[k] = [.s (.int .i64 ((m + 1 + sizeL (l.take k) : Nat) : Int))] := by rw [idxs_at (m + 1) l k hlt]; rfl
        have hg := ih l[k] (List.getElem_mem hlt) _ (hA.kids.at k hlt) (hp.kid _ (List.getElem_mem hlt))
        obtain ⟨b, r, hbr⟩ : ∃ b r, l[k] = .mk b r := ⟨_, _, Arb.eta _⟩
        have hex : exR l[k] = [exO l[k]] := rfl
        rw [hbr, exO_mk] at hg hex
        have htl : (l.take k).length = k := by rw [List.length_take]; omega
        have hts := List.take_succ_eq_append_getElem hlt
        (have hWf := WFx.mk (ai @h0 <| ai @h6 <| ai @h27 <| ai @h28 <| ai @h29 <| ai @b25 <| ai @b7 <| ai @b1 <| ai @hx2 <| ai @he2 <| ai @hil <| @htl); repeat' (first | refine zS ?_ | exact zE | with_reducible apply And.intro | ((with_reducible apply q_CallE); refine CallE_mk (FCon.noout hg) ?_) | ((with_reducible apply q_CallG); refine zG (hg) ?_) | with_reducible exact zB0 | with_reducible refine zB fun hb => ?_ | exact zC | refine zT ?_ | fail))
        refine hK (l.length - (k + 1)) _ (by omega) ⟨k + 1, by omega, rfl, ?_⟩
        simp only [go_sem, simprocAttr, h0, h6, h27, h28, h29, b25, b7, b1, Int.natCast_succ, hts, List.map_append, hbr, hex]
      · obtain rfl : k = l.length := by omega
        rw [List.take_length] at b7
        (have hWf := WFx.mk (ai @h0 <| ai @h6 <| ai @h27 <| ai @h28 <| ai @h29 <| ai @b25 <| ai @b7 <| @b1); repeat' (first | refine zS ?_ | exact zE | with_reducible apply And.intro | with_reducible exact zB0 | with_reducible refine zB fun hb => ?_ | exact zC | refine zT ?_ | fail))
end Go.Proofs.YtgcdbmcoendcdaaGreat
