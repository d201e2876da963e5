/- Parts of the proof, laid together: GrB, GtB, short forms, Gy. -/
import Derived.Deep.LoopGhost
import Derived.Deep.RegionLaw
import Derived.Deep.RegionWith
import Derived.Deep.Slices
import Derived.Laws.AppendOwn
import Derived.Laws.CopyRow
import Derived.Laws.Cover3
import Derived.Laws.EntriesVeiled
import Derived.Laws.Externs
import Derived.Laws.IdiomStrings
import Derived.Laws.StructEq
import Derived.Lib.AppendStr
import Derived.Lib.AppendZeros
import Derived.Lib.AppendZerosOnto
import Derived.Lib.Hide
import Derived.Lib.Overlaps
import Derived.ProofKit
import Derived.Test.YtmnokalddmlogaaGreatProg
import Derived.WalkKit
import Derived.Test.YtmnokalddmlogaaGreatP3
set_option linter.unusedSimpArgs false
set_option linter.unusedVariables false
set_option maxRecDepth 100000
set_option maxHeartbeats 8000000
namespace Go.Proofs.YtmnokalddmlogaaGreat
section
open Go.RowKit
def bnd (ops : Array Oper) (j i : Nat) : Bool := match ops[j]? with
 | some o => o.after.any fun e => Region.binds .any e && e.on == i
 | none => false
theorem Xz {ops : Array Oper} {j i : Nat} (h : bnd ops j i = true) : ∃ o e, ops[j]? = some o /\ e ∈ o.after /\ Region.binds .any e = true /\ e.on = i := by
 unfold bnd at h
 split at h
 ·rename_i o ho
  obtain ⟨e, he, hb⟩ := Array.any_eq_true'.1 h
  simp only [Bool.and_eq_true, beq_iff_eq] at hb
  exact ⟨o, e, ho, he, hb.1, hb.2⟩
 ·cases h
def ancB (ops : Array Oper) (m : Nat) : Nat -> Nat -> Bool
 | 0, _ => false
 | f + 1, i => bnd ops m i || (List.range m).any fun k => bnd ops k i && ancB ops m f k
def Closed (ops : Array Oper) (listed : Array Bool) : Prop := ∀ k o, ops[k]? = some o -> listed.getD k false = true -> ∀ e ∈ o.after, Region.binds .any e = true -> listed.getD e.on false = true
theorem Xx {ops : Array Oper} {m : Nat} {listed : Array Bool} (hc : Closed ops listed) (hm : m ∈ Region.ready .any ops listed) : ∀ (f i : Nat), ancB ops m f i = true -> listed.getD i false = true
 | 0, _, h => by cases h
 | f + 1, i, h => by
  unfold ancB at h
  rcases Bool.or_eq_true_iff.1 h with h | h
  ·obtain ⟨o, e, ho, he, hb, rfl⟩ := Xz h
   obtain ⟨-, o', ho', hall⟩ := mem_ready.1 hm
   rw [ho] at ho'; injection ho' with ho'; subst ho'
   exact hall e he hb
  ·obtain ⟨k, -, hk⟩ := List.any_eq_true.1 h
   simp only [Bool.and_eq_true] at hk
   obtain ⟨o, e, ho, he, hb, rfl⟩ := Xz hk.1
   exact hc k o ho (Xx hc hm f k hk.2) e he hb
theorem uW {ops : Array Oper} {listed : Array Bool} (hc : Closed ops listed) {j : Nat} (hj : j ∈ Region.ready .any ops listed) : Closed ops (listed.setIfInBounds j true) := by
 intro k o ho hk e he hb
 refine getD_set_true ?_
 by_cases hjk : j = k
 ·subst hjk
  obtain ⟨-, o', ho', hall⟩ := mem_ready.1 hj
  rw [ho] at ho'; injection ho' with ho'; subst ho'
  exact hall e he hb
 ·rw [getD_set_ne false hjk] at hk
  exact hc k o ho hk e he hb
section
variable {P : Program} {N : Nat} {ops : Array Oper} {m : Nat} {E : St -> St} {K : St -> Prop}
def SoundP (P : Program) (N : Nat) (ops : Array Oper) (o : Oper) (E : St -> St) (σ : St) : Prop :=
 ∀ σ1 : St, (∀ t ∈ o.looksAt ops, σ1.t t = σ.t t) -> σ1.b = σ.b -> ∀ (x : Cx) (g : Gh) (a : Act) (w : World), x.P = P -> x.N = N -> Rel x g σ1 a w ->
  Region.wanted o (yielded ops a.tmps) = true /\ ∀ (K : Act -> World -> Prop) (Q : Exit -> Act -> World -> Prop), (∀ g' a' w', Rel x g' (E σ1) a' w' -> K a' w') -> o.wp P a w K Q
theorem SoundP.unput {o : Oper} {σ : St} {d : Option Tmp} {u : D} (h : SoundP P N ops o E (σ.put d u)) (hd : ∀ i, d = some i -> i ∉ o.looksAt ops) : SoundP P N ops o E σ := by
 intro σ1 h1 h2
 exact h σ1 (fun t ht => (h1 t ht).trans (St.put_other σ u hd t ht).symm) (h2.trans (St.put_b _ _ _).symm)
theorem WH {Q : Exit -> Act -> World -> Prop} (hb : ∀ i o, ops[i]? = some o -> ∀ e ∈ o.after, Region.binds .any e = true -> e.on < i) :
  ∀ (l : List Oper) (k : Nat) (listed : Array Bool) (a : Act) (w : World), k + l.length = ops.size -> (∀ j, j < l.length -> l[j]? = ops[k + j]?) -> (∀ j, k < j -> j < ops.size -> bnd ops j (j - 1) = true) -> listed.size = ops.size ->
   (∀ j, j < k -> listed.getD j true = true) -> (∀ j, k <= j -> j < ops.size -> listed.getD j true = false) -> wpList P ops Q l a w -> wpAny P .any ops Q l.length listed a w
 | [], k, listed, a, w, hk, hl, ht, hsz, hlt, hge, h => by
  refine ⟨?_, h⟩
  cases hr : Region.ready .any ops listed with
  | nil => rfl
  | cons i r =>
   have hi : i ∈ Region.ready .any ops listed := by rw [hr]; simp
   obtain ⟨hiu, oi, hoi, -⟩ := mem_ready.1 hi
   have := (Array.getElem?_eq_some_iff.1 hoi).1
   simp at hk
   rw [hlt i (by omega)] at hiu
   cases hiu
 | o :: l, k, listed, a, w, hk, hl, ht, hsz, hlt, hge, h => by
  have h0 : ops[k]? = some o := by have := hl 0 (by simp); simpa using this.symm
  have hklt : k < ops.size := (Array.getElem?_eq_some_iff.1 h0).1
  have hr : k ∈ Region.ready .any ops listed := mem_ready.2 ⟨hge k (Nat.le_refl _) hklt, o, h0, fun e he hb' => by
   have h1 := hb k o h0 e he hb'
   have h2 := hlt e.on h1
   have : e.on < listed.size := by omega
   simpa [this] using h2⟩
  have ih := WH (Q := Q) hb l (k + 1) (listed.setIfInBounds k true)
  have ih' : ∀ a w, wpList P ops Q l a w -> wpAny P .any ops Q l.length (listed.setIfInBounds k true) a w := fun a w => ih a w (by simp at hk; omega) (fun j hj => by have := hl (j + 1) (by simp; omega); simpa [Nat.add_assoc, Nat.add_comm 1 j] using this) (fun j hj => ht j (by omega)) (by simpa using hsz) (fun j hj => by
   by_cases e : k = j
   ·subst e
    have : k < listed.size := by omega
    simp [this]
   ·rw [getD_set_ne true e]; exact hlt j (by omega)) (fun j hj hjs => by rw [getD_set_ne true (by omega)]; exact hge j (by omega) hjs)
  refine ⟨fun q => (by rw [q] at hr; cases hr), fun i hi => ?_⟩
  obtain ⟨hiu, oi, hoi, hall⟩ := mem_ready.1 hi
  have hik : i = k := by
   rcases Nat.lt_trichotomy i k with q | q | q
   ·rw [hlt i q] at hiu; cases hiu
   ·exact q
   ·exfalso
    have hilt : i < ops.size := (Array.getElem?_eq_some_iff.1 hoi).1
    obtain ⟨o', e, ho', he, hb', hon⟩ := Xz (ht i q hilt)
    rw [hoi] at ho'; injection ho' with ho'; subst ho'
    have h1 := hall e he hb'
    have h2 := hge (i - 1) (by omega) (by omega)
    have h3 : i - 1 < listed.size := by omega
    rw [hon] at h1
    simp [h3] at h1 h2; rw [h2] at h1; cases h1
  subst hik
  unfold wpOp
  simp only [h0]
  unfold wpList at h
  split
  ·rename_i hw
   rw [if_pos hw] at h
   exact h.imp (Oper.wp_mono ih') id
  ·rename_i hw
   rw [if_neg hw] at h
   exact ih' _ _ h
end
theorem vO {n : Nat} {p : Nat -> Bool} (h : (List.range n).all p = true) {i : Nat} (hi : i < n) : p i = true := List.all_eq_true.1 h i (List.mem_range.2 hi)
def aqst (M : Md) (ops : Array Oper) (o : Oper) (σ : St) (K : St -> Prop) : Prop := match o.guard with
 | none => match aopP M.P σ o.op with
  | some (ob, y) => ob /\ K (σ.put o.dst y)
  | none => match aopB M.P σ o.op with
   | some (ob, y) => ob /\ K (σ.put o.dst y)
   | none => Yc M.P σ o true id K
 | some (j, want) => match grd ops σ j want with
  | none => False
  | some c => if (M.lit && !c) = true then K (σ.put o.dst (gdT false .un)) else match aopP M.P σ o.op with
   | some (ob, y) => (c = true -> ob) /\ K (σ.put o.dst (gdT c y))
   | none => match aopB M.P σ o.op with
    | some (ob, y) => (c = true -> ob) /\ K (σ.put o.dst (gdT c y))
    | none => Yc M.P σ o c (gdT c) K
theorem aqst_yl {M : Md} {P : Program} (hP : M.P = P) {N : Nat} {ops : Array Oper} (hc : chk N ops = true) {o : Oper} (ho : ∃ i : Nat, ops[i]? = some o) {K : St -> Prop} {σ : St} (h : aqst M ops o σ K) : ∃ y, Yl P N ops o σ y /\ K (σ.put o.dst y) := by
 obtain ⟨io, ho⟩ := ho
 have hdN : ∀ d, o.dst = some d -> d < N := fun d q => (vw hc ho q).1
 have val : ∀ y, (∀ σ' : St, (∀ t ∈ o.looksAt ops, σ'.t t = σ.t t) -> σ'.b = σ.b -> ∀ (x : Cx) (g : Gh) (a : Act) (w : World), x.P = P -> x.N = N -> Rel x g σ' a w ->
   (Region.wanted o (yielded ops a.tmps) = true /\ ∃ r w' g', (execOp a.eval o).run P w = .ok (.value r) w' /\ Rel x g' σ' a w' /\ RT g' w' y r) \/ (Region.wanted o (yielded ops a.tmps) = false /\ RT g w y undef)) -> Yl P N ops o σ y := by
  intro y hy σ' h1 h2 x g a w hx hN hr
  rcases hy σ' h1 h2 x g a w hx hN hr with ⟨hw, r, w', g', r1, r2, r3⟩ | ⟨hw, r1⟩
  ·refine .inl ⟨hw, fun K Q hK => ?_⟩
   unfold Oper.wp
   rw [r1, Oper.upon_value]
   exact hK _ _ _ (r2.put r3 o.dst (fun d q => by rw [hN]; exact hdN d q))
  ·exact .inr ⟨hw, hr.put r1 o.dst (fun d q => by rw [hN]; exact hdN d q)⟩
 subst hP
 unfold aqst at h
 split at h
 ·rename_i hgd
  have hw : ∀ a : Act, Region.wanted o (yielded ops a.tmps) = true := fun a => by simp [Region.wanted, hgd]
  split at h
  ·rename_i ob y hop
   refine ⟨y, val y fun σ' h1 h2 x g a w hx hN hr => .inl ⟨hw a, ?_⟩, h.2⟩
   rw [<- hx] at hop ⊢
   obtain ⟨r, r1, r2⟩ := YU ((Wf o.op (zl h1) h2).trans hop) h.1 hr
   exact ⟨r, w, g, r1, hr, r2⟩
  ·split at h
   ·rename_i ob y hop
    refine ⟨y, val y fun σ' h1 h2 x g a w hx hN hr => .inl ⟨hw a, ?_⟩, h.2⟩
    rw [<- hx] at hop ⊢
    exact WK ((We h2 o.op (zl h1)).trans hop) h.1 hr
   ·obtain ⟨r0, hF, hK⟩ := h
    have hF := hF rfl
    refine ⟨_, ?_, hK⟩
    intro σ' h1 h2 x g a w hx hN hr
    refine .inl ⟨hw a, fun K Q hKK => ?_⟩
    obtain ⟨d, ob, f, caps, l, o2, ars, bs, r1, e1, e2, e3, e4, e5, e6, e7, e8⟩ := hF
    rw [<- hx] at e6 ⊢
    exact ZF (r := r0) ⟨d, ob, f, caps, l, o2, ars, bs, r1, e1, (vN o.op (zl h1)).trans e2, e3, (uv h2 [] l 0 (fun z hz => zl h1 z (YT e2 z hz))).trans e4, e5, e6, e7, e8⟩ hr (fun v g' w' c1 c2 => hKK _ _ _ (c1.put (c2) o.dst (fun d q => by rw [hN]; exact hdN d q)))
 ·rename_i j want hgd
  split at h
  ·exact h.elim
  ·rename_i c hcg
   have hw : ∀ (σ' : St), (∀ t ∈ o.looksAt ops, σ'.t t = σ.t t) -> ∀ (x : Cx) (g : Gh) (a : Act) (w : World), x.N = N -> Rel x g σ' a w -> Region.wanted o (yielded ops a.tmps) = c := by
    intro σ' h1 x g a w hN hr
    simp only [Region.wanted, hgd]
    subst hN
    exact grd_ok hr hc ((grd_congr h1 hgd).trans hcg)
   split at h
   ·rename_i hl
    have hcf : c = false := by
     cases c with
     | true => simp at hl
     | false => rfl
    subst hcf
    exact ⟨_, val _ fun σ' h1 h2 x g a w hx hN hr => .inr ⟨hw σ' h1 x g a w hN hr, zZ g w .un⟩, h⟩
   ·cases c with
    | true =>
     split at h
     ·rename_i ob y hop
      refine ⟨_, val _ fun σ' h1 h2 x g a w hx hN hr => .inl ⟨hw σ' h1 x g a w hN hr, ?_⟩, h.2⟩
      rw [<- hx] at hop ⊢
      obtain ⟨r, r1, r2⟩ := YU ((Wf o.op (zl h1) h2).trans hop) (h.1 rfl) hr
      exact ⟨r, w, g, r1, hr, uj r2⟩
     ·split at h
      ·rename_i ob y hop
       refine ⟨_, val _ fun σ' h1 h2 x g a w hx hN hr => .inl ⟨hw σ' h1 x g a w hN hr, ?_⟩, h.2⟩
       rw [<- hx] at hop ⊢
       obtain ⟨r, w', g', r1, r2, r3⟩ := WK ((We h2 o.op (zl h1)).trans hop) (h.1 rfl) hr
       exact ⟨r, w', g', r1, r2, uj r3⟩
      ·obtain ⟨r0, hF, hK⟩ := h
       have hF := hF rfl
       refine ⟨_, ?_, hK⟩
       intro σ' h1 h2 x g a w hx hN hr
       refine .inl ⟨hw σ' h1 x g a w hN hr, fun K Q hKK => ?_⟩
       obtain ⟨d, ob, f, caps, l, o2, ars, bs, r1, e1, e2, e3, e4, e5, e6, e7, e8⟩ := hF
       rw [<- hx] at e6 ⊢
       exact ZF (r := r0) ⟨d, ob, f, caps, l, o2, ars, bs, r1, e1, (vN o.op (zl h1)).trans e2, e3, (uv h2 [] l 0 (fun z hz => zl h1 z (YT e2 z hz))).trans e4, e5, e6, e7, e8⟩ hr (fun v g' w' c1 c2 => hKK _ _ _ (c1.put (uj c2) o.dst (fun d q => by rw [hN]; exact hdN d q)))
    | false =>
     have fal : ∀ y, Yl M.P N ops o σ (gdT false y) := fun y => val _ fun σ' h1 h2 x g a w hx hN hr => .inr ⟨hw σ' h1 x g a w hN hr, zZ g w y⟩
     split at h
     ·exact ⟨_, fal _, h.2⟩
     ·split at h
      ·exact ⟨_, fal _, h.2⟩
      ·obtain ⟨r0, -, hK⟩ := h
       exact ⟨_, fal _, hK⟩
structure Fx where
 i : Nat
 E : St -> St
 th : D -> D
section
variable {P : Program} {N : Nat} {ops : Array Oper} {m : Nat} {fx : List Nat} {K : St -> Prop}
def uO (P : Program) (N : Nat) (ops : Array Oper) (m : Nat) (K : St -> Prop) : Nat -> Array Bool -> (List Fx -> Prop) -> St -> Prop
 | 0, listed, Ls, σ => (∀ j, j < m -> listed.getD j true = true) /\ K σ
 | fuel + 1, listed, Ls, σ => Region.ready .any ops listed ≠ [] /\ ∀ i ∈ Region.ready .any ops listed, ∃ o, ops[i]? = some o /\ i < m /\
   (((∀ es, Ls es -> ∀ e ∈ es, e.i ≠ i) /\ ∃ y, Yl P N ops o σ y /\ uO P N ops m K fuel (listed.setIfInBounds i true) Ls (σ.put o.dst y)) \/
    (∃ (e : Fx) (Ls' : List Fx -> Prop), e.i = i /\ SoundP P N ops o e.E σ /\ (∃ es, Ls' es) /\ (∀ es, Ls' es -> Ls (e :: es)) /\ uO P N ops m K fuel (listed.setIfInBounds i true) Ls' (e.E σ)))
def FxOk (ops : Array Oper) (m : Nat) (e : Fx) : Prop := ∀ (σ : St) (k : Nat) (ok : Oper) (z : D), ops[k]? = some ok -> k < m -> k ≠ e.i -> e.E (σ.put ok.dst z) = (e.E σ).put ok.dst (e.th z)
def FlC (P : Program) (N : Nat) (ops : Array Oper) (i : Nat) (y : D) (o : Oper) : List Fx -> St -> Prop
 | [], _ => True
 | e :: es, σ => ancB ops e.i ops.size i = true \/ (e.th y = y /\ Yl P N ops o (e.E σ) y /\ FlC P N ops i y o es (e.E σ))
theorem FlC.put {i : Nat} {y : D} {o : Oper} {j : Nat} {oj : Oper} (hj : ops[j]? = some oj) (hjm : j < m) (ha : ∀ d, oj.dst = some d -> d ∉ o.looksAt ops) :
  ∀ (es : List Fx) (σ : St) (z : D), (∀ e ∈ es, FxOk ops m e /\ e.i ≠ j) -> FlC P N ops i y o es σ -> FlC P N ops i y o es (σ.put oj.dst z)
 | [], _, _, _, _ => trivial
 | e :: es, σ, z, he, h => by
  rcases h with h | ⟨h1, h2, h3⟩
  ·exact .inl h
  ·obtain ⟨q1, q2⟩ := he e (by simp)
   refine .inr ⟨h1, ?_, ?_⟩
   ·rw [q1 σ j oj z hj hjm (Ne.symm q2)]; exact h2.put _ ha
   ·rw [q1 σ j oj z hj hjm (Ne.symm q2)]; exact FlC.put hj hjm ha es _ _ (fun e' h' => he e' (List.mem_cons_of_mem _ h')) h3
theorem FlC.unput {i : Nat} {y : D} {o : Oper} {j : Nat} {oj : Oper} (hj : ops[j]? = some oj) (hjm : j < m) (ha : ∀ d, oj.dst = some d -> d ∉ o.looksAt ops) :
  ∀ (es : List Fx) (σ : St) (z : D), (∀ e ∈ es, FxOk ops m e /\ e.i ≠ j) -> FlC P N ops i y o es (σ.put oj.dst z) -> FlC P N ops i y o es σ
 | [], _, _, _, _ => trivial
 | e :: es, σ, z, he, h => by
  rcases h with h | ⟨h1, h2, h3⟩
  ·exact .inl h
  ·obtain ⟨q1, q2⟩ := he e (by simp)
   rw [q1 σ j oj z hj hjm (Ne.symm q2)] at h2 h3
   exact .inr ⟨h1, h2.unput ha, FlC.unput hj hjm ha es _ _ (fun e' h' => he e' (List.mem_cons_of_mem _ h')) h3⟩
theorem QK {i : Nat} {oi : Oper} {y : D} (hi : ops[i]? = some oi) (him : i < m) (htail : ∀ j, m <= j -> j < ops.size -> ancB ops j ops.size i = true) :
  ∀ (fuel : Nat) (listed : Array Bool) (Ls : List Fx -> Prop) (σ : St), (∀ es, Ls es -> ∀ e ∈ es, FxOk ops m e /\ e.i ≠ i) -> listed.size = ops.size -> Closed ops listed ->
   (∀ j oj, ops[j]? = some oj -> j ≠ i -> j < m -> listed.getD j true = false -> bnd ops j i = false -> oi.apart ops oj = true) ->
   i ∈ Region.ready .any ops listed -> Yl P N ops oi σ y -> (∀ es, Ls es -> FlC P N ops i y oi es σ) ->
   uO P N ops m K fuel (listed.setIfInBounds i true) Ls (σ.put oi.dst y) -> uO P N ops m K (fuel + 1) listed Ls σ := by
 have hbn : ∀ (listed : Array Bool) (j : Nat), i ∈ Region.ready .any ops listed -> j ∈ Region.ready .any ops listed -> bnd ops j i = false := by
  intro listed j hr hj
  cases hb : bnd ops j i with
  | false => rfl
  | true =>
   obtain ⟨-, oj, hoj, hall⟩ := mem_ready.1 hj
   obtain ⟨o, e, ho, he, hb, hon⟩ := Xz hb
   rw [hoj] at ho; injection ho with ho; subst ho
   have h1 := hall e he hb
   have h0 := (mem_ready.1 hr).1
   rw [hon] at h1
   rcases Nat.lt_or_ge i listed.size with h' | h'
   ·simp [h'] at h0 h1; rw [h0] at h1; cases h1
   ·simp [Array.getElem?_eq_none h'] at h1
 have hjm : ∀ (listed : Array Bool) (j : Nat), Closed ops listed -> listed.size = ops.size -> i ∈ Region.ready .any ops listed -> j ∈ Region.ready .any ops listed -> j < m := by
  intro listed j hcl hsz hir hj
  rcases Nat.lt_or_ge j m with q | q
  ·exact q
  ·obtain ⟨-, oj, hoj, -⟩ := mem_ready.1 hj
   have h1 := Xx hcl hj _ _ (htail j q (Array.getElem?_eq_some_iff.1 hoj).1)
   have h0 := (mem_ready.1 hir).1
   have hilt : i < listed.size := by rw [hsz]; exact (Array.getElem?_eq_some_iff.1 hi).1
   simp [hilt] at h0 h1; rw [h0] at h1; cases h1
 intro fuel
 induction fuel with
 | zero =>
  intro listed Ls σ hes hsz hcl hfr hr hy hfl H
  refine ⟨fun h => (by rw [h] at hr; cases hr), fun j hj => ?_⟩
  have hlt := hjm listed j hcl hsz hr hj
  by_cases hji : j = i
  ·subst hji; exact ⟨oi, hi, hlt, .inl ⟨fun es h1 e he => (hes es h1 e he).2, y, hy, H⟩⟩
  ·have h1 := H.1 j hlt
   rw [getD_set_ne true (Ne.symm hji)] at h1
   rw [(mem_ready.1 hj).1] at h1
   cases h1
 | succ fuel ih =>
  intro listed Ls σ hes hsz hcl hfr hr hy hfl H
  refine ⟨fun h => (by rw [h] at hr; cases hr), fun j hj => ?_⟩
  have hlt := hjm listed j hcl hsz hr hj
  by_cases hji : j = i
  ·subst hji; exact ⟨oi, hi, hlt, .inl ⟨fun es h1 e he => (hes es h1 e he).2, y, hy, H⟩⟩
  ·obtain ⟨hjun, oj', hoj', hall⟩ := mem_ready.1 hj
   obtain ⟨a1, a2, a3⟩ := Oper.apart_spec (hfr j oj' hoj' hji hlt hjun (hbn listed j hr hj))
   obtain ⟨oj, hoj, -, hk⟩ := H.2 j (ready_mono hj hji)
   rw [hoj] at hoj'; injection hoj' with hoj'; subst hoj'
   have hsz' : (listed.setIfInBounds j true).size = ops.size := by simpa using hsz
   have hfr' : ∀ k ok, ops[k]? = some ok -> k ≠ i -> k < m -> (listed.setIfInBounds j true).getD k true = false -> bnd ops k i = false -> oi.apart ops ok = true := fun k ok hk hki hkm hun hb => by
    refine hfr k ok hk hki hkm ?_ hb
    by_cases hjk : j = k
    ·subst hjk; exact hjun
    ·rw [getD_set_ne true hjk] at hun; exact hun
   rcases hk with ⟨hne, z, hz, H1⟩ | ⟨e, Ls', he, hS, hne, hsub, H1⟩
   ·refine ⟨oj, hoj, hlt, .inl ⟨hne, z, hz.unput a1, ?_⟩⟩
    refine ih (listed.setIfInBounds j true) Ls _ hes hsz' (uW hcl hj) hfr' (ready_mono hr (Ne.symm hji)) (hy.put z a3) (fun es hes' => FlC.put hoj hlt a3 es σ z (fun e he => ⟨(hes es hes' e he).1, hne es hes' e he⟩) (hfl es hes')) ?_
    rw [Array.setIfInBounds_comm _ _ hji, <- St.put_comm σ y z a2]
    exact H1
   ·refine ⟨oj, hoj, hlt, .inr ⟨e, Ls', he, hS.unput a1, hne, hsub, ?_⟩⟩
    have hanc : ancB ops e.i ops.size i ≠ true := fun q => by
     rw [he] at q
     have h1 := Xx hcl hj _ _ q
     have h0 := (mem_ready.1 hr).1
     have hilt : i < listed.size := by rw [hsz]; exact (Array.getElem?_eq_some_iff.1 hi).1
     simp [hilt] at h0 h1; rw [h0] at h1; cases h1
    obtain ⟨es0, hes0⟩ := hne
    have q := (hfl _ (hsub _ hes0)).resolve_left hanc
    refine ih (listed.setIfInBounds j true) Ls' _ (fun es h' e' he' => hes _ (hsub _ h') e' (List.mem_cons_of_mem _ he')) hsz' (uW hcl hj) hfr' (ready_mono hr (Ne.symm hji)) q.2.1 (fun es h' => ((hfl _ (hsub _ h')).resolve_left hanc).2.2) ?_
    rw [Array.setIfInBounds_comm _ _ hji]
    have he0 := hes _ (hsub _ hes0) e (by simp)
    have := he0.1 σ i oi y hi him (Ne.symm he0.2)
    rw [q.1] at this
    rw [<- this]
    exact H1
inductive Tr where
 | nil
 | no
 | fl (i : Nat) (t : Tr)
 | fx (i : Nat) (t r : Tr)
def Tr.len : Tr -> Nat
 | .nil => 0
 | .no => 0
 | .fl _ t => t.len + 1
 | .fx _ t _ => t.len + 1
def Tr.alts : Tr -> List Nat
 | .fx i _ r => i :: r.alts
 | _ => []
def Tr.isNo : Tr -> Bool
 | .no => true
 | _ => false
def Zh (P : Program) (N : Nat) (ops : Array Oper) (τ : St) : Tr -> (List Fx -> Prop) -> St -> Prop
 | .nil, _, σ => σ = τ
 | .no, _, _ => True
 | .fl i t, Ls, σ => ∃ o, ops[i]? = some o /\ ∃ y, Yl P N ops o σ y /\ (∀ es, Ls es -> FlC P N ops i y o es σ) /\ Zh P N ops τ t Ls (σ.put o.dst y)
 | .fx i t r, Ls, σ => (∃ o, ops[i]? = some o /\ ∃ (e : Fx) (Ls' : List Fx -> Prop), e.i = i /\ SoundP P N ops o e.E σ /\ (∃ es, Ls' es) /\ (∀ es, Ls' es -> Ls (e :: es)) /\ Zh P N ops τ t Ls' (e.E σ)) /\
   ∃ Ls2 : List Fx -> Prop, (∀ es, Ls2 es -> Ls es) /\ Zh P N ops τ r Ls2 σ
def Y3 : Op -> Bool
 | .store _ _ _ => true
 | _ => false
def ordB (ops : Array Oper) (m : Nat) (fx : List Nat) (fl : Nat -> Nat -> Bool) : Tr -> List Nat -> List Nat -> Array Bool -> Bool
 | .nil, al, _, listed => al.isEmpty && (List.range m).all fun j => listed.getD j true
 | .no, al, _, _ => !al.isEmpty
 | .fl i t, al, dn, listed => al.isEmpty && decide (i < m) && !dn.contains i && (Region.ready .any ops listed).contains i && !fx.contains i &&
   (match ops[i]? with
   | none => false
   | some o => (match o.dst with
     | none => false
     | some d => !(o.looksAt ops).contains d && dn.all fun j => match ops[j]? with
      | some oj => !(oj.looksAt ops).contains d
      | none => false) &&
    ((List.range m).all fun j => listed.getD j true || j == i || bnd ops j i || match ops[j]? with
      | some oj => o.apart ops oj
      | none => true)) &&
   ordB ops m fx fl t [] (i :: dn) (listed.setIfInBounds i true)
 | .fx i t r, al, dn, listed => decide (i < m) && !dn.contains i && (Region.ready .any ops listed).contains i && fx.contains i &&
   (match ops[i]? with
   | none => false
   | some o => (match o.dst with
     | none => Y3 o.op
     | some d => !(o.looksAt ops).contains d && dn.all fun j => match ops[j]? with
      | some oj => !(oj.looksAt ops).contains d
      | none => false) &&
    (o.guard.isNone && (Region.ready .any ops listed).all (fun j => j == i || al.contains j || r.alts.contains j) && dn.all (fun j => match ops[j]? with
      | some oj => fx.contains j || ancB ops i ops.size j || fl i j
      | none => false))) &&
   (r.isNo || r.len == t.len + 1) && ordB ops m fx fl t [] (i :: dn) (listed.setIfInBounds i true) && ordB ops m fx fl r (i :: al) dn listed
theorem uP {fl : Nat -> Nat -> Bool} {τ : St} (htail : ∀ j, m <= j -> j < ops.size -> ∀ i, i < m -> ancB ops j ops.size i = true) :
  ∀ (tr : Tr) (al dn : List Nat) (listed : Array Bool) (Ls : List Fx -> Prop) (σ : St), ordB ops m fx fl tr al dn listed = true -> (∀ es, Ls es -> ∀ e ∈ es, FxOk ops m e /\ fx.contains e.i = true) -> listed.size = ops.size -> Closed ops listed ->
   Zh P N ops τ tr Ls σ -> (al = [] -> uO P N ops m (fun σ' => σ' = τ) tr.len listed Ls σ) /\
    ∀ j ∈ tr.alts, ∃ o, ops[j]? = some o /\ j < m /\ ∃ (e : Fx) (Ls' : List Fx -> Prop), e.i = j /\ SoundP P N ops o e.E σ /\ (∃ es, Ls' es) /\ (∀ es, Ls' es -> Ls (e :: es)) /\ uO P N ops m (fun σ' => σ' = τ) (tr.len - 1) (listed.setIfInBounds j true) Ls' (e.E σ)
 | .nil, al, dn, listed, Ls, σ, hB, hes, hsz, hcl, h => by
  refine ⟨fun _ => ⟨fun j hj => ?_, h⟩, fun j hj => by cases hj⟩
  simp only [ordB, Bool.and_eq_true] at hB
  exact List.all_eq_true.1 hB.2 j (List.mem_range.2 hj)
 | .no, al, dn, listed, Ls, σ, hB, hes, hsz, hcl, h => by
  refine ⟨fun q => ?_, fun j hj => by cases hj⟩
  subst q
  cases hB
 | .fl i t, al, dn, listed, Ls, σ, hB, hes, hsz, hcl, h => by
  refine ⟨fun _ => ?_, fun j hj => by cases hj⟩
  obtain ⟨o, ho, y, hy, hf, hK⟩ := h
  simp only [ordB, ho, Bool.and_eq_true, decide_eq_true_eq, Bool.not_eq_true'] at hB
  obtain ⟨⟨⟨⟨⟨⟨-, him⟩, -⟩, hr⟩, hp⟩, -, hB1⟩, hB2⟩ := hB
  have hr : i ∈ Region.ready .any ops listed := by simpa using hr
  have hne : ∀ es, Ls es -> ∀ e ∈ es, e.i ≠ i := fun es h1 e he hei => by
   have := (hes es h1 e he).2
   rw [hei, hp] at this; cases this
  refine QK ho him (fun j h1 h2 => htail j h1 h2 i him) t.len listed Ls σ (fun es h1 e he => ⟨(hes es h1 e he).1, hne es h1 e he⟩) hsz hcl (fun j oj hoj hji hjm hun hb => ?_) hr hy hf ?_
  ·have := List.all_eq_true.1 hB1 j (List.mem_range.2 hjm)
   simp only [hun, hb, hoj, Bool.or_eq_true, Bool.false_or, beq_iff_eq, Bool.or_false] at this
   rcases this with q | q
   ·exact absurd q hji
   ·exact q
  ·exact (uP htail t [] _ _ Ls _ hB2 hes (by simpa using hsz) (uW hcl hr) hK).1 rfl
 | .fx i t r, al, dn, listed, Ls, σ, hB, hes, hsz, hcl, h => by
  obtain ⟨⟨o, ho, e, Ls', he, hS, hne, hsub, hK⟩, Ls2, hsub2, hK2⟩ := h
  simp only [ordB, ho, Bool.and_eq_true, decide_eq_true_eq, Bool.not_eq_true'] at hB
  obtain ⟨⟨⟨⟨⟨⟨⟨him, -⟩, hr⟩, -⟩, -, ⟨-, hall⟩, -⟩, hlen⟩, hB2⟩, hB3⟩ := hB
  have hr : i ∈ Region.ready .any ops listed := by simpa using hr
  have IH1 := (uP htail t [] _ _ Ls' _ hB2 (fun es h1 e' he' => hes _ (hsub _ h1) e' (List.mem_cons_of_mem _ he')) (by simpa using hsz) (uW hcl hr) hK).1 rfl
  have IH2 := (uP htail r (i :: al) dn listed Ls2 σ hB3 (fun es h1 => hes es (hsub2 es h1)) hsz hcl hK2).2
  have key : ∀ j ∈ (Tr.fx i t r).alts, ∃ o, ops[j]? = some o /\ j < m /\ ∃ (e : Fx) (Ls' : List Fx -> Prop), e.i = j /\ SoundP P N ops o e.E σ /\ (∃ es, Ls' es) /\ (∀ es, Ls' es -> Ls (e :: es)) /\ uO P N ops m (fun σ' => σ' = τ) t.len (listed.setIfInBounds j true) Ls' (e.E σ) := by
   intro j hj
   simp only [Tr.alts] at hj
   rcases List.mem_cons.1 hj with rfl | hj
   ·exact ⟨o, ho, him, e, Ls', he, hS, hne, hsub, IH1⟩
   ·obtain ⟨o', q1, q2, e', Ls3, q3, q4, q5, q6, q7⟩ := IH2 j hj
    refine ⟨o', q1, q2, e', Ls3, q3, q4, q5, fun es h1 => hsub2 _ (q6 es h1), ?_⟩
    have : r.len - 1 = t.len := by
     rcases Bool.or_eq_true_iff.1 hlen with q | q
     ·cases r <;> first | (cases hj; done) | (cases q; done)
     ·have := beq_iff_eq.1 q; omega
    rw [this] at q7
    exact q7
  refine ⟨fun q => ?_, fun j hj => by simpa [Tr.len] using key j hj⟩
  subst q
  refine ⟨fun q => (by rw [q] at hr; cases hr), fun j hj => ?_⟩
  have hja : j ∈ (Tr.fx i t r).alts := by
   have := List.all_eq_true.1 hall j hj
   simp only [List.contains_nil, Bool.or_false, Bool.or_eq_true, beq_iff_eq, List.contains_iff_mem] at this
   simp only [Tr.alts]
   rcases this with q | q
   ·simp [q]
   ·exact List.mem_cons_of_mem _ q
  obtain ⟨o', q1, q2, e', Ls3, q3, q4, q5, q6, q7⟩ := key j hja
  exact ⟨o', q1, q2, .inr ⟨e', Ls3, q3, q4, q5, q6, q7⟩⟩
theorem Xv {x : Cx} (hx : x.P = P) (hN : x.N = N) {Q : Exit -> Act -> World -> Prop} {n : Nat} (hm : m <= ops.size)
  (hQ : ∀ σ' g' a' w' (listed : Array Bool), listed.size = ops.size -> (∀ j, j < m -> listed.getD j true = true) -> (∀ j, m <= j -> j < ops.size -> listed.getD j true = false) -> Rel x g' σ' a' w' -> K σ' -> wpAny P .any ops Q n listed a' w') :
  ∀ (fuel : Nat) (listed : Array Bool) (Ls : List Fx -> Prop) (σ : St) (g : Gh) (a : Act) (w : World), listed.size = ops.size -> (∀ j, m <= j -> j < ops.size -> listed.getD j true = false) -> Rel x g σ a w -> uO P N ops m K fuel listed Ls σ -> wpAny P .any ops Q (n + fuel) listed a w
 | 0, listed, Ls, σ, g, a, w, hsz, hge, hr, h => hQ σ g a w listed hsz h.1 hge hr h.2
 | fuel + 1, listed, Ls, σ, g, a, w, hsz, hge, hr, h => by
  refine ⟨fun q => absurd q h.1, fun i hi => ?_⟩
  obtain ⟨o, ho, him, hk⟩ := h.2 i hi
  have hge' : ∀ j, m <= j -> j < ops.size -> (listed.setIfInBounds i true).getD j true = false := fun j hj hjs => by rw [getD_set_ne true (by omega)]; exact hge j hj hjs
  have ih : ∀ Ls' σ' g' a' w', Rel x g' σ' a' w' -> uO P N ops m K fuel (listed.setIfInBounds i true) Ls' σ' -> wpAny P .any ops Q (n + fuel) (listed.setIfInBounds i true) a' w' := fun Ls' σ' g' a' w' hr' h' => Xv hx hN hm hQ fuel _ Ls' σ' g' a' w' (by simpa using hsz) hge' hr' h'
  unfold wpOp
  simp only [ho]
  rcases hk with ⟨-, y, hy, hK⟩ | ⟨e, Ls', -, hS, -, -, hK⟩
  ·rcases hy σ (fun _ _ => rfl) rfl x g a w hx hN hr with ⟨hw, h1⟩ | ⟨hw, h1⟩
   ·rw [if_pos hw]
    exact .inl (h1 _ _ fun g' a' w' hr' => ih _ _ g' a' w' hr' hK)
   ·rw [if_neg (by rw [hw]; simp)]
    exact ih _ _ g _ w h1 hK
  ·obtain ⟨hw, h1⟩ := hS σ (fun _ _ => rfl) rfl x g a w hx hN hr
   rw [if_pos hw]
   exact .inl (h1 _ _ fun g' a' w' hr' => ih _ _ g' a' w' hr' hK)
end
def aFlQ (M : Md) (ops : Array Oper) (σ τ : St) : List Oper -> Prop
 | [] => True
 | o :: r => (match o.dst with
  | some d => τ.t d = σ.t d /\ aqst M ops o τ (fun τ' => τ'.t d = σ.t d)
  | none => False) /\ aFlQ M ops σ τ r
def CallE (P : Program) (f : FuncId) (ars : List D) (bs : List Nat) (K : D -> List D -> Prop) : Prop := ∃ r0 o0, FCon P f ars (fun r o => r = r0 /\ o = o0) /\ (bs = [] \/ (Pure r0 /\ ∀ o ∈ o0, Pure o)) /\ K r0 o0
def ACallE (M : Md) (σ : St) (o : Oper) (K : St -> Prop) : Prop := match aFn σ o.op with
 | some (_, f0, _, ops0) => match zO (M.md f0) 0 ops0 σ with
  | some (o1, σ1) => match aFn σ1 o.op with
   | some (o0, f, caps, ops) => match wb σ1 (M.md f0) 0 ops with
    | some (o2, ars, gs, bs) => o0 /\ o1 /\ o2 /\ nodB (gvN gs) = true /\ nodB (gvK gs) = true /\ bs.all (pOut (gvN gs)) = true /\ CallE M.P f (ars ++ caps) bs (aft σ1 o.dst gs K)
    | none => False
   | none => False
  | none => False
 | none => False
def aEff (M : Md) (o : Oper) (σ : St) (K : St -> Prop) : Prop := match aop2 M.P σ o.dst o.op with
 | some (ob, y, σ') => ob /\ K (σ'.put o.dst y)
 | none => ACallE M σ o K
def aPivN (M : Md) (ops : Array Oper) (K : St -> Prop) (fl : List Oper) (p : Oper) (σ : St) : Prop := aEff M p σ fun τ => aFlQ M ops σ τ fl /\ K τ
def Meet (σ τ : St) : Prop := σ = τ
def altK (A : (St -> Prop) -> Prop) (K : St -> Prop) (τ : St) : Prop := A (fun σ => Meet σ τ) /\ K τ
def aqsN (M : Md) (ops : Array Oper) (fl : Nat -> Nat -> Bool) : (St -> Prop) -> Tr -> List (Nat × Oper) -> St -> Prop
 | K, .nil, _, σ => K σ
 | _, .no, _, _ => True
 | K, .fl i t, acc, σ => match ops.toList[i]? with
  | none => False
  | some o => aqst M ops o σ (aqsN M ops fl K t ((i, o) :: acc))
 | K, .fx i t r, acc, σ => match ops.toList[i]? with
  | none => False
  | some o => aPivN M ops (aqsN M ops fl (altK (fun K' => aqsN M ops fl K' r acc σ) K) t (acc.filter fun p => fl i p.1)) ((acc.filter fun p => fl i p.1).map Prod.snd) o σ
section
variable {M : Md} {ops : Array Oper} {fl : Nat -> Nat -> Bool} {K : St -> Prop} {acc : List (Nat × Oper)} {σ : St} {i j : Nat} {t r u : Tr}
theorem aqsN_nil : aqsN M ops fl K .nil acc σ = K σ := rfl
theorem aqsN_no : aqsN M ops fl K .no acc σ = True := rfl
theorem aqsN_fl : aqsN M ops fl K (.fl i t) acc σ = match ops.toList[i]? with
  | none => False
  | some o => aqst M ops o σ (aqsN M ops fl K t ((i, o) :: acc)) := rfl
theorem aqsN_fx : aqsN M ops fl K (.fx i t (.fx j r u)) acc σ = match ops.toList[i]? with
  | none => False
  | some o => aPivN M ops (aqsN M ops fl (altK (fun K' => aqsN M ops fl K' (.fx j r u) acc σ) K) t (acc.filter fun p => fl i p.1)) ((acc.filter fun p => fl i p.1).map Prod.snd) o σ := rfl
theorem aqsN_fx1 : aqsN M ops fl K (.fx i t .no) acc σ = match ops.toList[i]? with
  | none => False
  | some o => aPivN M ops (aqsN M ops fl K t (acc.filter fun p => fl i p.1)) ((acc.filter fun p => fl i p.1).map Prod.snd) o σ := by
 have : altK (fun K' => aqsN M ops fl K' .no acc σ) K = K := funext fun τ => propext ⟨fun h => h.2, fun h => ⟨trivial, h⟩⟩
 conv => lhs; unfold aqsN
 rw [this]
theorem altK_ap {A : (St -> Prop) -> Prop} {τ : St} : altK A K τ = (A (fun σ => Meet σ τ) /\ K τ) := rfl
end
def lin (fx : List Nat) : List Nat -> Tr
 | [] => .nil
 | i :: π => match fx.contains i with
  | true => .fx i (lin fx π) .no
  | false => .fl i (lin fx π)
theorem lin_nil {fx : List Nat} : lin fx [] = .nil := rfl
theorem lin_cons {fx : List Nat} {i : Nat} {π : List Nat} : lin fx (i :: π) = match fx.contains i with
  | true => .fx i (lin fx π) .no
  | false => .fl i (lin fx π) := rfl
theorem aop2_fx {P : Program} {σ σ' : St} {d : Tmp} {op : Op} {ob : Prop} {y : D} (h : aop2 P σ (some d) op = some (ob, y, σ')) :
  ∃ (θ : D -> D) (B : Nat -> Option Ob), σ' = ⟨fun i => θ (σ.t i), B⟩ /\ ∀ τ : St, τ.b = σ.b -> (∀ z ∈ op.operands, ev τ z = ev σ z) -> aop2 P τ (some d) op = some (ob, y, ⟨fun i => θ (τ.t i), B⟩) := by
 unfold aop2 at h
 split at h
 ·rename_i t
  split at h
  ·rename_i ag n z hd hk
   injection hd with hd; subst hd
   injection h with h; injection h with e1 e2; injection e2 with e2 e3
   subst e1 e2 e3
   refine ⟨scT (pOut [d]), ((σ.sc (pOut [d]) (pOut [d])).setB d (.box _)).b, rfl, fun τ hτ _ => ?_⟩
   unfold aop2
   simp only [hk, St.setB, St.sc, hτ]
  ·cases h
 ·rename_i t z
  split at h
  ·rename_i row hd hc
   injection hd with hd; subst hd
   injection h with h; injection h with e1 e2; injection e2 with e2 e3
   subst e1 e2 e3
   refine ⟨scT (pOut [d]), ((σ.sc (pOut [d]) (pOut [d])).setB d (.box _)).b, rfl, fun τ hτ hv => ?_⟩
   have e := hv z (by simp [Op.operands])
   unfold aop2
   simp only [e, hc, St.setB, St.sc, hτ]
  ·cases h
 ·split at h
  ·rename_i hd _ _; cases hd
  ·cases h
 ·rename_i t parts
  split at h
  ·rename_i ob' y' h'
   injection h with h; injection h with e1 e2; injection e2 with e2 e3
   subst e1 e2 e3
   refine ⟨fun y => y, σ.b, rfl, fun τ hτ hv => ?_⟩
   have e : wM P τ t parts = wM P σ t parts := by
    simp only [wM]
    cases tk P t <;> try rfl
    simp only
    rw [Xe _ _ (fun z hz => hv z.2 (by simp [Op.operands]; exact ⟨z.1, by simpa using hz⟩))]
   unfold aop2
   simp only [e, h', <- hτ]
  ·cases h
 ·rename_i t l c
  split at h
  ·rename_i e k by_ z kl n kc m hd hk hl hc
   injection hd with hd; subst hd
   injection h with h; injection h with e1 e2; injection e2 with e2 e3
   subst e1 e2 e3
   refine ⟨scT (pOut [d]), ((σ.sc (pOut [d]) (pOut [d])).setB d (.arr e k _)).b, rfl, fun τ hτ hv => ?_⟩
   have e1 := hv l (by simp [Op.operands])
   have e2 := hv c (by simp [Op.operands])
   unfold aop2
   simp only [e1, e2, hk, hl, hc, St.setB, St.sc, hτ]
  ·cases h
 ·rename_i t len parts
  split at h
  ·rename_i e k by_ z hd hk
   injection hd with hd; subst hd
   split at h
   ·rename_i ob' rows raw h'
    injection h with h; injection h with e1 e2; injection e2 with e2 e3
    subst e1 e2 e3
    refine ⟨scT (pOut (d :: idsC raw)), ((σ.sc (pOut (d :: idsC raw)) (pOut (d :: idsC raw))).setB d (.arr e k rows)).b, rfl, fun τ hτ hv => ?_⟩
    have e1 := Xf hτ (k := k) parts.toList 0 (fun z hz => hv z.2 (by simp [Op.operands]; exact ⟨z.1, by simpa using hz⟩))
    unfold aop2
    simp only [e1, hk, h', St.setB, St.sc, hτ]
   ·cases h
  ·cases h
 ·rename_i args ts
  split at h
  ·rename_i s z t t' hd ha ht
   injection hd with hd; subst hd
   have hops : ∀ τ : St, (∀ y ∈ (Op.call ⟨.builtin .append, args, ts⟩).operands, ev τ y = ev σ y) -> ev τ s = ev σ s /\ ev τ z = ev σ z := fun τ hv =>
    ⟨hv s (by simp [Op.operands, Call.operands, <- Array.mem_toList_iff, ha]), hv z (by simp [Op.operands, Call.operands, <- Array.mem_toList_iff, ha])⟩
   split at h
   ·rename_i e k by_ zz hk
    split at h
    ·rename_i ob' rows' ids hx
     split at h
     ·rename_i id k' n hs
      split at h
      ·rename_i e' k'' rows hrow
       injection h with h; injection h with e1 e2; injection e2 with e2 e3
       subst e1 e2 e3
       refine ⟨scT (pOut (nmA d id :: id :: ids)), ((σ.sc (pOut (nmA d id :: id :: ids)) (pOut (nmA d id :: id :: ids))).setB (nmA d id) (.arr e k _)).b, rfl, fun τ hτ hv => ?_⟩
       obtain ⟨e1, e2⟩ := hops τ hv
       unfold aop2
       simp only [ha, ht, hk, e1, e2, srcK_b hτ, hx, hs, hτ, hrow, St.setB, St.sc]
      ·cases h
     ·rename_i hs
      injection h with h; injection h with e1 e2; injection e2 with e2 e3
      subst e1 e2 e3
      refine ⟨scT (pOut (d :: ids)), ((σ.sc (pOut (d :: ids)) (pOut (d :: ids))).setB d (.arr e k _)).b, rfl, fun τ hτ hv => ?_⟩
      obtain ⟨e1, e2⟩ := hops τ hv
      unfold aop2
      simp only [ha, ht, hk, e1, e2, srcK_b hτ, hx, hs, hτ, St.setB, St.sc]
     ·cases h
    ·cases h
   ·cases h
  ·cases h
 ·cases h
theorem aop2_fxS {P : Program} {σ σ' : St} {op : Op} (hs : Y3 op = true) {ob : Prop} {y : D} (h : aop2 P σ none op = some (ob, y, σ')) :
  ∃ (θ : D -> D) (B : Nat -> Option Ob), σ' = ⟨fun i => θ (σ.t i), B⟩ /\ ∀ τ : St, τ.b = σ.b -> (∀ z ∈ op.operands, ev τ z = ev σ z) -> aop2 P τ none op = some (ob, y, ⟨fun i => θ (τ.t i), B⟩) := by
 unfold Y3 at hs
 split at hs
 ·rename_i t p v
  unfold aop2 at h
  simp only at h
  split at h
  ·rename_i xs ag n zz hd0 hc hk
   split at h
   ·rename_i id off hp
    split at h
    ·rename_i row hrow
     injection h with h; injection h with e1 e2; injection e2 with e2 e3
     subst e1 e2 e3
     refine ⟨fun y => y, (σ.setB id (.box (lay row off xs))).b, rfl, fun τ hτ hv => ?_⟩
     have e1 := hv p (by simp [Op.operands])
     have e2 := hv v (by simp [Op.operands])
     unfold aop2
     simp only [e1, e2, hc, hk, hp, hrow, hτ, St.setB]
    ·cases h
   ·rename_i id k i off hp
    split at h
    ·rename_i e k' rows ob' ds hrow hfd
     injection h with h; injection h with e1 e2; injection e2 with e2 e3
     subst e1 e2 e3
     refine ⟨scT (pOut (idsC xs)), ((σ.sc (pOut (idsC xs)) (pOut (idsC xs))).setB id (.arr e k (rows.set i (lay (rows.getD i []) off ds)))).b, rfl, fun τ hτ hv => ?_⟩
     have e1 := hv p (by simp [Op.operands])
     have e2 := hv v (by simp [Op.operands])
     unfold aop2
     simp only [e1, e2, hc, hk, hp, hrow, YZ hτ, hfd, hτ, St.setB, St.sc]
    ·rename_i e k' rows i0 c0 r _ hrow hfd
     split at h
     ·rename_i dd
      injection h with h; injection h with e1 e2; injection e2 with e2 e3
      subst e1 e2 e3
      refine ⟨fun y => y, (σ.setB id (.hol e k' rows i0 c0 dd)).b, rfl, fun τ hτ hv => ?_⟩
      have e1 := hv p (by simp [Op.operands])
      have e2 := hv v (by simp [Op.operands])
      unfold aop2
      simp only [e1, e2, hc, hk, hp, hrow, YZ hτ, hfd, hτ, St.setB]
     ·cases h
    ·cases h
   ·cases h
  ·cases h
 ·cases hs
theorem aEff_fx {M : Md} {o : Oper} (hdd : (∃ d, o.dst = some d) \/ (o.dst = none /\ Y3 o.op = true)) {σ : St} {K : St -> Prop} (h : aEff M o σ K) : ∃ (θ : D -> D) (B : Nat -> Option Ob) (Y : D), K (Ef θ B o.dst Y σ) /\
  ∀ τ : St, τ.b = σ.b -> (∀ z ∈ o.op.operands, ev τ z = ev σ z) -> ∀ {x : Cx} {g : Gh} {a : Act} {w : World}, x.P = M.P -> (∀ d, o.dst = some d -> d < x.N /\ d < 999) -> Rel x g τ a w -> ∀ {K' : Act -> World -> Prop} {Q : Exit -> Act -> World -> Prop}, (∀ g' a' w', Rel x g' (Ef θ B o.dst Y τ) a' w' -> K' a' w') -> o.wp x.P a w K' Q := by
 unfold aEff at h
 split at h
 ·rename_i ob y σ' hop
  obtain ⟨θ, B, hσ, hc⟩ : ∃ (θ : D -> D) (B : Nat -> Option Ob), σ' = ⟨fun i => θ (σ.t i), B⟩ /\ ∀ τ : St, τ.b = σ.b -> (∀ z ∈ o.op.operands, ev τ z = ev σ z) -> aop2 M.P τ o.dst o.op = some (ob, y, ⟨fun i => θ (τ.t i), B⟩) := by
   rcases hdd with ⟨d, hdd⟩ | ⟨hdd, hst⟩
   ·rw [hdd] at hop ⊢; exact aop2_fx hop
   ·rw [hdd] at hop ⊢; exact aop2_fxS hst hop
  subst hσ
  refine ⟨θ, B, y, h.2, fun τ hτ hv x g a w hx hd hr K' Q hK => ?_⟩
  have hop' := hc τ hτ hv
  rw [<- hx] at hop'
  obtain ⟨w', g', r0, r1⟩ := aop2_ok hop' h.1 (fun d q => lt_isP (hd d q).2) hr
  unfold Oper.wp
  rcases r1 with ⟨r, r1, r2⟩ | ⟨r1, r2⟩
  ·rw [r1, Oper.upon_value]
   exact hK _ _ _ (r0.put r2 o.dst (fun d q => (hd d q).1))
  ·rw [r1, Oper.upon_skip]
   exact hK _ _ _ (r0.put (y := y) (v := undef) (by rw [r2]; trivial) o.dst (fun d q => (hd d q).1))
 ·unfold ACallE at h
  split at h
  ·rename_i q0 f0 caps0 ops0 hcal0
   obtain ⟨d, hdd⟩ : ∃ d, o.dst = some d := by
    rcases hdd with hdd | ⟨-, hst⟩
    ·exact hdd
    ·unfold Y3 at hst
     split at hst
     ·rename_i q; rw [q] at hcal0; cases hcal0
     ·cases hst
   split at h
   ·rename_i o1 σ1 hprep
    split at h
    ·rename_i o0 f caps ops hcal
     split at h
     ·rename_i o2 ars gs bs harg
      obtain ⟨h0, h1, h2, h3, h4, h5, r0, u0, hF, hpu, hlen, hre⟩ := h
      obtain ⟨θ1, B1, hs1⟩ := YJ _ 0 hprep
      have e1 := hs1 σ rfl (fun _ _ => rfl)
      simp only [hprep] at e1
      injection e1 with e1; injection e1 with _ e1
      split at hre
      ·rename_i ob2 σ2 hro
       obtain ⟨θ2, B2, hs2⟩ := Z3 gs hro
       have e2 := hs2 _ rfl trivial
       simp only [hro] at e2
       injection e2 with e2; injection e2 with _ e2
       have hEf : ∀ τ : St, (⟨fun i => θ2 ((((⟨fun i => θ1 (τ.t i), B1⟩ : St).cal (o.dst.getD 999) gs r0 u0).put o.dst (shA (o.dst.getD 999) r0)).t i), B2⟩ : St) = Ef (fun y => θ2 (scT (qCal (o.dst.getD 999) gs u0) (θ1 y))) B2 o.dst (θ2 (shA (o.dst.getD 999) r0)) τ := fun τ => by
        unfold Ef
        rw [hdd]
        simp only [St.put, St.cal]
        congr 1
        funext i
        split <;> rfl
       refine ⟨fun y => θ2 (scT (qCal (o.dst.getD 999) gs u0) (θ1 y)), B2, θ2 (shA (o.dst.getD 999) r0), ?_, fun τ hτ hv x g a w hx hd hr K' Q hK => ?_⟩
       ·rw [<- hEf σ, <- e1, <- e2]; exact hre.2
       ·have p1 := hs1 τ hτ (fun z hz => hv z (YT hcal0 z hz))
        simp only at p1
        have hv1 : ∀ z ∈ o.op.operands, ev ⟨fun i => θ1 (τ.t i), B1⟩ z = ev σ1 z := fun z hz => by rw [e1]; exact ev_th (hv z hz)
        have hb1 : (⟨fun i => θ1 (τ.t i), B1⟩ : St).b = σ1.b := by rw [e1]
        refine WP (K0 := fun s => s = Ef (fun y => θ2 (scT (qCal (o.dst.getD 999) gs u0) (θ1 y))) B2 o.dst (θ2 (shA (o.dst.getD 999) r0)) τ) hx ?_ hd hr (fun σ' g' a' w' q1 q2 => by subst q2; exact hK g' a' w' q1)
        unfold YQ
        simp only [(vN o.op hv).trans hcal0, p1, (vN o.op hv1).trans hcal, (uv hb1 (M.md f0) ops 0 (fun z hz => hv1 z (YT hcal z hz))).trans harg]
        refine ⟨h0, h1, h2, h3, h4, h5, _, hF, ?_⟩
        rintro r outs ⟨rfl, rfl⟩
        refine ⟨hpu, hlen, ?_⟩
        have p2 := hs2 (((⟨fun i => θ1 (τ.t i), B1⟩ : St).cal (o.dst.getD 999) gs r outs).put o.dst (shA (o.dst.getD 999) r)) (by rw [St.put_b, St.put_b]; unfold St.cal; have hb2 : B1 = σ1.b := hb1; simp only [hb2]) trivial
        simp only at p2
        simp only [p2]
        exact ⟨hre.1, hEf τ⟩
      ·exact hre.elim
     ·exact h.elim
    ·exact h.elim
   ·exact h.elim
  ·exact h.elim
def valD (σ : St) (o : Oper) : D := match o.dst with | some d => σ.t d | none => .un
theorem Vz {M : Md} {ops : Array Oper} {σ τ : St} : ∀ {l : List Oper}, aFlQ M ops σ τ l -> ∀ o ∈ l, ∃ d, o.dst = some d /\ τ.t d = σ.t d /\ aqst M ops o τ (fun τ' => τ'.t d = σ.t d)
 | [], _, o, ho => by cases ho
 | o' :: r, h, o, ho => by
  simp only [aFlQ] at h
  rcases List.mem_cons.1 ho with rfl | ho
  ·obtain ⟨q, -⟩ := h
   split at q
   ·rename_i d hd
    exact ⟨d, hd, q.1, q.2⟩
   ·exact q.elim
  ·exact Vz h.2 o ho
def dstB (ops : Array Oper) (m : Nat) : Bool := (List.range m).all fun i => (List.range m).all fun j => i == j || match ops[i]?, ops[j]? with
 | some a, some b => a.dst.isNone || a.dst != b.dst
 | _, _ => false
theorem X7 {M : Md} {P : Program} (hP : M.P = P) {N : Nat} {ops : Array Oper} {m : Nat} {fx : List Nat} {fl : Nat -> Nat -> Bool} (hc : chk N ops = true) (hd : dstB ops m = true) :
  ∀ (tr : Tr) (al dn : List Nat) (listed : Array Bool) (acc : List (Nat × Oper)) (K : St -> Prop) (σ : St), ordB ops m fx fl tr al dn listed = true -> (∀ p ∈ acc, ops[p.1]? = some p.2 /\ p.1 < m /\ p.1 ∈ dn /\ fx.contains p.1 = false) ->
   aqsN M ops fl K tr acc σ -> tr.isNo = false -> ∃ (τ : St) (Ls : List Fx -> Prop), K τ /\ Zh P N ops τ tr Ls σ /\ (∃ es, Ls es) /\ (∀ es, Ls es -> ∀ e ∈ es, FxOk ops m e /\ fx.contains e.i = true) /\ ∀ p ∈ acc, ∀ es, Ls es -> FlC P N ops p.1 (valD σ p.2) p.2 es σ
 | .nil, al, dn, listed, acc, K, σ, hB, hacc, h, _ => ⟨σ, fun es => es = [], h, rfl, ⟨[], rfl⟩, fun es hes e he => (by subst hes; cases he), fun p hp es hes => by subst hes; trivial⟩
 | .no, al, dn, listed, acc, K, σ, hB, hacc, h, hn => by cases hn
 | .fl i t, al, dn, listed, acc, K, σ, hB, hacc, h, _ => by
  unfold aqsN at h
  cases ho : ops[i]? with
  | none => rw [Array.getElem?_toList, ho] at h; exact h.elim
  | some o =>
  rw [Array.getElem?_toList, ho] at h
  simp only at h
  simp only [ordB, ho, Bool.and_eq_true, decide_eq_true_eq, Bool.not_eq_true'] at hB
  obtain ⟨⟨⟨⟨⟨⟨-, him⟩, hnd⟩, hr⟩, hp⟩, hB0, hB1⟩, hB2⟩ := hB
  have hni : i ∉ dn := by simpa using hnd
  obtain ⟨d, hod⟩ : ∃ d, o.dst = some d := by
   cases q : o.dst with
   | none => rw [q] at hB0; cases hB0
   | some d => exact ⟨d, rfl⟩
  rw [hod] at hB0
  simp only [Bool.and_eq_true, Bool.not_eq_true'] at hB0
  have hself : ∀ d', o.dst = some d' -> d' ∉ o.looksAt ops := fun d' hd' => by
   rw [hod] at hd'; injection hd' with hd'; subst hd'
   simpa using hB0.1
  have hdis : ∀ k ok, ops[k]? = some ok -> k < m -> k ≠ i -> ∀ d, o.dst = some d -> ok.dst ≠ some d := fun k ok hk hkm hki d hd' e => by
   have := List.all_eq_true.1 (List.all_eq_true.1 hd k (List.mem_range.2 hkm)) i (List.mem_range.2 him)
   simp [hk, ho, hki, e, hd'] at this
  have hlk : ∀ p ∈ acc, ∀ d', o.dst = some d' -> d' ∉ p.2.looksAt ops := fun p hp d' hd' => by
   obtain ⟨q1, q2, q3, q4⟩ := hacc p hp
   rw [hod] at hd'; injection hd' with hd'; subst hd'
   have := List.all_eq_true.1 hB0.2 p.1 q3
   simpa [q1] using this
  have hpi : ∀ p ∈ acc, p.1 ≠ i := fun p hp e => hni (e ▸ (hacc p hp).2.2.1)
  have hvd : ∀ (τ : St) (z : D), ∀ p ∈ acc, valD (τ.put o.dst z) p.2 = valD τ p.2 := fun τ z p hp => by
   obtain ⟨q1, q2, q3, q4⟩ := hacc p hp
   unfold valD
   cases hpd : p.2.dst with
   | none => rfl
   | some d' =>
    have : d' ≠ d := fun e => hdis p.1 p.2 q1 q2 (hpi p hp) d hod (by rw [hpd, e])
    simp [St.put, hod, this]
  obtain ⟨y, hy, hK⟩ := aqst_yl hP hc ⟨i, ho⟩ h
  obtain ⟨τ, Ls, g0, h1, hn1, h2, h3⟩ := X7 hP hc hd t [] (i :: dn) _ ((i, o) :: acc) K _ hB2 (fun p hpm => by
   rcases List.mem_cons.1 hpm with rfl | hpm
   ·exact ⟨ho, him, by simp, hp⟩
   ·obtain ⟨q1, q2, q3, q4⟩ := hacc p hpm
    exact ⟨q1, q2, List.mem_cons_of_mem _ q3, q4⟩) hK (by cases t <;> first | rfl | (simp [ordB] at hB2; done))
  have hne : ∀ es, Ls es -> ∀ e ∈ es, FxOk ops m e /\ e.i ≠ i := fun es hes e he => ⟨(h2 es hes e he).1, fun q => by
   have := (h2 es hes e he).2
   rw [q, hp] at this; cases this⟩
  refine ⟨τ, Ls, g0, ⟨o, ho, y, hy, fun es hes => ?_, h1⟩, hn1, h2, fun p hpm es hes => ?_⟩
  ·have q := h3 (i, o) (by simp) es hes
   have hv : valD (σ.put o.dst y) o = y := by simp [valD, hod, St.put]
   rw [hv] at q
   exact FlC.unput ho him hself es σ y (hne es hes) q
  ·have q := h3 p (List.mem_cons_of_mem _ hpm) es hes
   rw [hvd σ y p hpm] at q
   exact FlC.unput ho him (hlk p hpm) es σ y (hne es hes) q
 | .fx i t r, al, dn, listed, acc, K, σ, hB, hacc, h, _ => by
  unfold aqsN at h
  cases ho : ops[i]? with
  | none => rw [Array.getElem?_toList, ho] at h; exact h.elim
  | some o =>
  rw [Array.getElem?_toList, ho] at h
  simp only at h
  simp only [ordB, ho, Bool.and_eq_true, decide_eq_true_eq, Bool.not_eq_true', Option.isNone_iff_eq_none] at hB
  obtain ⟨⟨⟨⟨⟨⟨⟨him, hnd⟩, hr⟩, hp⟩, hB0, ⟨hgd, -⟩, hdn⟩, hlen⟩, hB2⟩, hB3⟩ := hB
  have hni : i ∉ dn := by simpa using hnd
  have hdd : (∃ d, o.dst = some d) \/ (o.dst = none /\ Y3 o.op = true) := by
   cases q : o.dst with
   | none => rw [q] at hB0; exact .inr ⟨rfl, hB0⟩
   | some d => exact .inl ⟨d, rfl⟩
  have hdis : ∀ k ok, ops[k]? = some ok -> k < m -> k ≠ i -> ∀ d, o.dst = some d -> ok.dst ≠ some d := fun k ok hk hkm hki d hd' e => by
   have := List.all_eq_true.1 (List.all_eq_true.1 hd k (List.mem_range.2 hkm)) i (List.mem_range.2 him)
   simp [hk, ho, hki, e, hd'] at this
  have hpi : ∀ p ∈ acc, p.1 ≠ i := fun p hp e => hni (e ▸ (hacc p hp).2.2.1)
  simp only [aPivN] at h
  obtain ⟨θ, B, y, ⟨hflo, hK⟩, hrun⟩ := aEff_fx hdd h
  have hdN : ∀ d, o.dst = some d -> d < N /\ d < 999 := fun d q => vw hc ho q
  have hS : SoundP P N ops o (Ef θ B o.dst y) σ := by
   intro σ1 e1 e2 x g a w hx hN hr
   refine ⟨by simp [Region.wanted, hgd], fun K Q hKK => ?_⟩
   subst hP
   rw [<- hx]
   refine hrun σ1 e2 (zl e1) hx (fun d q => by rw [hN]; exact hdN d q) hr fun g' a' w' h' => hKK _ _ _ h'
  obtain ⟨τ, Ls1, ⟨gA, g0⟩, h1, ⟨es0, hes0⟩, h2, h3⟩ := X7 hP hc hd t [] (i :: dn) _ (acc.filter fun p => fl i p.1) _ _ hB2 (fun p hpm => by
   obtain ⟨q1, q2, q3, q4⟩ := hacc p (List.mem_filter.1 hpm).1
   exact ⟨q1, q2, List.mem_cons_of_mem _ q3, q4⟩) hK (by cases t <;> first | rfl | (simp [ordB] at hB2; done))
  obtain ⟨Ls2, k1, k2, k3⟩ : ∃ Ls2 : List Fx -> Prop, Zh P N ops τ r Ls2 σ /\ (∀ es, Ls2 es -> ∀ e ∈ es, FxOk ops m e /\ fx.contains e.i = true) /\ ∀ p ∈ acc, ∀ es, Ls2 es -> FlC P N ops p.1 (valD σ p.2) p.2 es σ := by
   cases hno : r.isNo with
   | true =>
    refine ⟨fun _ => False, ?_, fun _ q => q.elim, fun _ _ _ q => q.elim⟩
    cases r <;> first | trivial | (cases hno; done)
   | false =>
    obtain ⟨τ', Ls2, m0, m1, -, m2, m3⟩ := X7 hP hc hd r (i :: al) dn listed acc _ σ hB3 hacc gA hno
    have : τ' = τ := m0
    subst this
    exact ⟨Ls2, m1, m2, m3⟩
  have hfx : FxOk ops m ⟨i, Ef θ B o.dst y, θ⟩ := fun τ k ok z hk hkm hki => Ef_put τ ok.dst z (fun q1 q2 => by cases hod : o.dst with | none => exact q1 (q2.trans hod) | some d0 => exact hdis k ok hk hkm hki d0 hod (q2.trans hod))
  refine ⟨τ, fun es => (∃ es', es = ⟨i, Ef θ B o.dst y, θ⟩ :: es' /\ Ls1 es') \/ Ls2 es, g0, ⟨⟨o, ho, ⟨i, Ef θ B o.dst y, θ⟩, Ls1, rfl, hS, ⟨es0, hes0⟩, fun es q => .inl ⟨es, rfl, q⟩, h1⟩, Ls2, fun es q => .inr q, k1⟩, ⟨_, .inl ⟨es0, rfl, hes0⟩⟩, fun es q e he => ?_, fun p hpm es q => ?_⟩
  ·rcases q with ⟨es', rfl, q⟩ | q
   ·rcases List.mem_cons.1 he with rfl | he
    ·exact ⟨hfx, hp⟩
    ·exact h2 es' q e he
   ·exact k2 es q e he
  ·rcases q with ⟨es', rfl, q⟩ | q
   ·obtain ⟨q1, q2, q3, q4⟩ := hacc p hpm
    have hb := List.all_eq_true.1 hdn p.1 q3
    simp only [q1, q4, Bool.false_or, Bool.or_eq_true] at hb
    rcases hb with hb | hb
    ·exact .inl hb
    ·right
     have hpf : p ∈ acc.filter fun p => fl i p.1 := List.mem_filter.2 ⟨hpm, hb⟩
     obtain ⟨d', e1, e3, e2⟩ := Vz hflo p.2 (List.mem_map.2 ⟨p, hpf, rfl⟩)
     have hv : valD σ p.2 = σ.t d' := by simp [valD, e1]
     have hθ : (Ef θ B o.dst y σ).t d' = θ (σ.t d') := by
      cases hod : o.dst with
      | none => simp [Ef, St.put]
      | some d =>
       have hne : d' ≠ d := fun e => hdis p.1 p.2 q1 q2 (hpi p hpm) d hod (by rw [e1, e])
       simp [Ef, St.put, hne]
     refine ⟨?_, ?_, ?_⟩
     ·rw [hv]; exact hθ.symm.trans e3
     ·rw [hv]
      obtain ⟨y', hy', hKy⟩ := aqst_yl hP (N := N) hc (o := p.2) ⟨p.1, q1⟩ e2
      have : y' = σ.t d' := by
       simpa [St.put, e1] using hKy
      rw [<- this]; exact hy'
     ·have q' := h3 p hpf es' q
      have : valD (Ef θ B o.dst y σ) p.2 = valD σ p.2 := by simp only [valD, e1]; exact e3
      rw [this] at q'
      exact q'
   ·exact k3 p hpm es q
def drawQB (ops : Array Oper) (m : Nat) (fx : List Nat) (fl : Nat -> Nat -> Bool) (tr : Tr) : Bool :=
 decide (m <= ops.size) && (tr.len == m) && !tr.isNo && dstB ops m &&
 ((List.range ops.size).all fun i => match ops[i]? with | some o => o.after.all fun e => !Region.binds .any e || decide (e.on < i) | none => true) &&
 ((List.range ops.size).all fun j => decide (j < m) || (((List.range m).all fun i => ancB ops j ops.size i) && (j == m || bnd ops j (j - 1)))) &&
 ordB ops m fx fl tr [] [] (Array.replicate ops.size false)
abbrev Plan := Nat × List Nat × List (Nat × Nat) × Tr
def flF : List (Nat × Nat) -> Nat -> Nat -> Bool
 | [], _, _ => false
 | (a, b) :: r, i, j => (i == a && j == b) || flF r i j
def plF : List (Nat × Plan) -> Nat -> Option Plan
 | [], _ => none
 | (i, p) :: r, n => if n = i then some p else plF r n
def chkC (pl : List (Nat × Plan)) (N : Nat) : Code -> Bool
 | .region id ops dr => chk N ops && (!dr || match plF pl id with
  | some (m, fx, fl, π) => drawQB ops m fx (flF fl) π
  | none => true)
 | .seq c d => chkC pl N c && chkC pl N d
 | .cond _ c d => chkC pl N c && chkC pl N d
 | .block _ c => chkC pl N c
 | .loop c => chkC pl N c
 | _ => true
def AC (M : Md) (N : Nat) (pl : List (Nat × Plan)) (c : Code) (K : Exit -> St -> Prop) (σ : St) : Prop :=
 chkC pl N c = true -> ∀ (x : Cx) (g : Gh) (a : Act) (w : World) (Q : Exit -> Act -> World -> Prop), x.P = M.P -> x.N = N -> Rel x g σ a w -> (∀ e σ' g' a' w', Rel x g' σ' a' w' -> K e σ' -> Q e a' w') -> c.wp M.P Q a w
def ACL (M : Md) (N : Nat) (pl : List (Nat × Plan)) (c : Code) (K : Exit -> St -> Prop) (σ : St) : Prop := AC M N pl (.loop c) K σ
def X6 (K' : St -> Prop) (K : Exit -> St -> Prop) : Exit -> St -> Prop
 | .normal, σ => K' σ
 | e, σ => K e σ
def Xn (id : Nat) (K : Exit -> St -> Prop) : Exit -> St -> Prop
 | .exit id', σ => if id' = id then K .normal σ else K (.exit id') σ
 | e, σ => K e σ
def condV (y : D) (A B : Prop) : Prop := match y with
 | .s (.bool t) => (t = true -> A) /\ (t = false -> B)
 | _ => False
section
variable {M : Md} {N : Nat} {pl : List (Nat × Plan)} {K : Exit -> St -> Prop} {σ : St}
theorem Rel.drew {x : Cx} {g : Gh} {a : Act} {w : World} (h : Rel x g σ a w) : Rel x g σ a w.drew := by
 have ev : Ev (fun _ => True) (fun p => p) pAll pAll g g w w.drew := ⟨⟨fun b hb => ⟨hb, rfl⟩, fun b p hb _ => ⟨hb, rfl⟩, fun b p o _ _ => ⟨trivial, rfl⟩⟩, fun i _ => ⟨rfl, rfl⟩, fun i _ => ⟨rfl, trivial, rfl⟩⟩
 have := h.ev ev ((Below.refl _ _).drew) (fun b _ _ => rfl) (fun b _ hs => .inl hs) h.new h.own
 rwa [sc_all] at this
theorem AC_drawQ {id : Nat} {l : List Oper} (m : Nat) (fx : List Nat) (fl : Nat -> Nat -> Bool) (π : Tr) (hB : drawQB l.toArray m fx fl π = true) (hc : chk N l.toArray = true)
  (h : aqsN M l.toArray fl (aops M l.toArray (K .normal) (l.drop m)) π [] σ) : ∀ (x : Cx) (g : Gh) (a : Act) (w : World) (Q : Exit -> Act -> World -> Prop), x.P = M.P -> x.N = N -> Rel x g σ a w -> (∀ e σ' g' a' w', Rel x g' σ' a' w' -> K e σ' -> Q e a' w') -> (Code.region id l.toArray true).wp M.P Q a w := by
 intro x g a w Q hx hN hr hQ
 unfold drawQB at hB
 simp only [Bool.and_eq_true, decide_eq_true_eq, beq_iff_eq, Bool.not_eq_true'] at hB
 obtain ⟨⟨⟨⟨⟨⟨b0, bl⟩, bn⟩, b1⟩, b2⟩, b3⟩, b4⟩ := hB
 have hget : ∀ j : Nat, l.toArray[j]? = l[j]? := fun j => by simp
 have hsz : l.toArray.size = l.length := by simp
 have hb : ∀ i o, l.toArray[i]? = some o -> ∀ e ∈ o.after, Region.binds .any e = true -> e.on < i := fun i o ho e he hbd => by
  have hi := (Array.getElem?_eq_some_iff.1 ho).1
  have := vO b2 hi
  simp only [ho] at this
  have := Array.all_eq_true'.1 this e he
  simpa [hbd] using this
 have htl : ∀ j, m <= j -> j < l.toArray.size -> ∀ i, i < m -> ancB l.toArray j l.toArray.size i = true := fun j hj hjs i hi => by
  have := vO b3 hjs
  simp only [Bool.or_eq_true, decide_eq_true_eq, Bool.and_eq_true] at this
  rcases this with q | q
  ·omega
  ·exact vO q.1 hi
 have htc : ∀ j, m < j -> j < l.toArray.size -> bnd l.toArray j (j - 1) = true := fun j hj hjs => by
  have := vO b3 hjs
  simp only [Bool.or_eq_true, decide_eq_true_eq, Bool.and_eq_true, beq_iff_eq] at this
  rcases this with q | ⟨-, q | q⟩
  ·omega
  ·omega
  ·exact q
 obtain ⟨τ, Ls, hτ, h1, -, h2, -⟩ := X7 (M := M) rfl (N := N) hc b1 π [] [] _ [] _ σ b4 (fun p hp => by cases hp) h bn
 have hA := (uP (P := M.P) (N := N) htl π [] [] _ Ls σ b4 h2 (by simp) (fun k o hk hl => by
  rw [Array.getD_eq_getD_getElem?] at hl
  rcases Nat.lt_or_ge k (Array.replicate l.toArray.size false).size with q | q
  ·rw [Array.getElem?_eq_getElem q] at hl; simp at hl
  ·rw [Array.getElem?_eq_none q] at hl; simp at hl) h1).1 rfl
 refine wp_region_any M.mix ?_
 have hfin := Xv (K := fun σ' => σ' = τ) (Q := Q) (n := (l.drop m).length) hx hN b0 (fun σ' g' a' w' listed hs hl1 hl2 hr' hK' => by
  subst hK'
  have hK' := hτ
  refine WH hb (l.drop m) m listed a' w' (by rw [hsz] at b0 ⊢; simp; omega) (fun j hj => by rw [hget]; simp) (fun j hj hjs => htc j hj hjs) hs hl1 hl2 ?_
  subst hN
  rw [<- hx]
  exact Xy hx hc (fun σ' g' a' w' hr' hK => hQ _ _ _ _ _ hr' hK) _ (fun o ho d hd => by
   obtain ⟨j, hj⟩ := List.mem_iff_getElem?.1 ho
   rw [List.getElem?_drop] at hj
   exact vw hc (j := m + j) (o := o) (by rw [hget]; exact hj) hd) _ _ _ _ hr' hK') π.len (Array.replicate l.toArray.size false) Ls σ g a w.drew (by simp) (fun j hj hjs => by simp at hjs ⊢; simp [hjs]) hr.drew hA
 have e : (l.drop m).length + π.len = l.toArray.size := by rw [bl]; simp at b0 ⊢; omega
 rw [e] at hfin
 exact hfin
def stp (M : Md) (N : Nat) (pl : List (Nat × Plan)) : Code -> (Exit -> St -> Prop) -> St -> Prop
 | .skip, K, σ => K .normal σ
 | .exit id, K, σ => K (.exit id) σ
 | .ret, K, σ => K .ret σ
 | .seq c d, K, σ => stp M N pl c (X6 (AC M N pl d K) K) σ
 | .block id c, K, σ => stp M N pl c (Xn id K) σ
 | .cond z c d, K, σ => condV (ev σ z) (AC M N pl c K σ) (AC M N pl d K σ)
 | .region id ops dr, K, σ => match dr with
  | false => aops (M.at id) ops (K .normal) ops.toList σ
  | true => match plF pl id with
   | some (m, fx, fl, π) => aqsN (M.at id) ops (flF fl) (aops (M.at id) ops (K .normal) (ops.toList.drop m)) π [] σ
   | none => False
 | .loop c, K, σ => ACL M N pl c K σ
 | _, _, _ => False
theorem stp_ok : ∀ (c : Code) (K : Exit -> St -> Prop) (σ : St), stp M N pl c K σ -> AC M N pl c K σ
 | .skip, K, σ, h => fun _ x g a w Q _ _ hr hQ => wp_skip (hQ _ _ _ _ _ hr h)
 | .exit id, K, σ, h => fun _ x g a w Q _ _ hr hQ => wp_exit (hQ _ _ _ _ _ hr h)
 | .ret, K, σ, h => fun _ x g a w Q _ _ hr hQ => wp_ret (hQ _ _ _ _ _ hr h)
 | .seq c d, K, σ, h => by
  intro hck x g a w Q hx hN hr hQ
  simp only [chkC, Bool.and_eq_true] at hck
  refine wp_seq (stp_ok c _ σ h hck.1 x g a w _ hx hN hr fun e σ' g' a' w' hr' hK => ?_)
  cases e with
  | normal => exact hK hck.2 x g' a' w' Q hx hN hr' hQ
  | exit id => exact hQ _ _ _ _ _ hr' hK
  | goto l => exact hQ _ _ _ _ _ hr' hK
  | ret => exact hQ _ _ _ _ _ hr' hK
  | panic c => exact hQ _ _ _ _ _ hr' hK
  | outgrown => exact hQ _ _ _ _ _ hr' hK
 | .block id c, K, σ, h => by
  intro hck x g a w Q hx hN hr hQ
  simp only [chkC] at hck
  refine wp_block (stp_ok c _ σ h hck x g a w _ hx hN hr fun e σ' g' a' w' hr' hK => ?_)
  cases e with
  | exit id' =>
   simp only [Exit.inBlock]
   simp only [Xn] at hK
   split
   ·rename_i e; rw [if_pos e] at hK; exact hQ _ _ _ _ _ hr' hK
   ·rename_i e; rw [if_neg e] at hK; exact hQ _ _ _ _ _ hr' hK
  | normal => exact hQ _ _ _ _ _ hr' hK
  | goto l => exact hQ _ _ _ _ _ hr' hK
  | ret => exact hQ _ _ _ _ _ hr' hK
  | panic c => exact hQ _ _ _ _ _ hr' hK
  | outgrown => exact hQ _ _ _ _ _ hr' hK
 | .cond z c d, K, σ, h => by
  intro hck x g a w Q hx hN hr hQ
  simp only [chkC, Bool.and_eq_true] at hck
  simp only [stp, condV] at h
  split at h
  ·rename_i t hz
   have hv := vf hr z
   rw [hz] at hv
   have hv : a.eval z = .bool t := Rep.s_inv (show Rep g.S g.up w none (.s (.bool t)) _ from hv)
   exact wp_cond_split hv (fun e => h.1 e hck.1 x g a w Q hx hN hr hQ) (fun e => h.2 e hck.2 x g a w Q hx hN hr hQ)
  ·exact h.elim
 | .region id ⟨l⟩ dr, K, σ, h => by
  intro hck x g a w Q hx hN hr hQ
  simp only [chkC, Bool.and_eq_true] at hck
  cases dr with
  | false =>
   simp only [stp] at h
   subst hN
   rw [<- hx]
   refine wp_region_lit (Xy (M := M.at id) hx hck.1 (fun σ' g' a' w' hr' hK => hQ _ _ _ _ _ hr' hK) l (fun o ho d hd => ?_) σ g a w hr h)
   obtain ⟨j, hj⟩ := List.mem_iff_getElem?.1 ho
   exact vw hck.1 (j := j) (o := o) (by simpa using hj) hd
  | true =>
   simp only [stp] at h
   simp only [Bool.not_true, Bool.false_or] at hck
   split at h
   ·rename_i m fx fl π hp
    rw [hp] at hck
    exact AC_drawQ (M := M.at id) m fx (flF fl) π hck.2 hck.1 h x g a w Q hx hN hr hQ
   ·exact h.elim
 | .loop c, K, σ, h => h
 | .rangeFunc _ _ _ _, K, σ, h => h.elim
 | .goto _, K, σ, h => h.elim
theorem xj {c : Code} (h : stp M N pl c K σ) : AC M N pl c K σ := stp_ok c K σ h
theorem xd {c : Code} (J : Nat -> St -> Prop) (n0 : Nat) (h0 : J n0 σ) (round : ∀ n σ, J n σ -> ∀ K' : St -> Prop, (∀ n' σ', n' < n -> J n' σ' -> K' σ') -> AC M N pl c (X6 K' K) σ) : ACL M N pl c K σ := by
 intro hck x g a w Q hx hN hr hQ
 simp only [chkC] at hck
 refine wp_loop_ghost (fun n a w => ∃ σ g, Rel x g σ a w /\ J n σ) n0 ⟨σ, g, hr, h0⟩ ?_
 rintro n a w ⟨σ, g, hr, hJ⟩
 refine round n σ hJ (fun σ' => ∃ n', n' < n /\ J n' σ') (fun n' σ' h1 h2 => ⟨n', h1, h2⟩) hck x g a w _ hx hN hr fun e σ' g' a' w' hr' hK => ?_
 cases e with
 | normal =>
  obtain ⟨n', hlt, hJ'⟩ := hK
  exact ⟨n', hlt, σ', g', hr', hJ'⟩
 | exit id => exact hQ _ _ _ _ _ hr' hK
 | goto l => exact hQ _ _ _ _ _ hr' hK
 | ret => exact hQ _ _ _ _ _ hr' hK
 | panic c => exact hQ _ _ _ _ _ hr' hK
 | outgrown => exact hQ _ _ _ _ _ hr' hK
theorem uE {c : Code} (h : AC M N pl (.loop c) K σ) : ACL M N pl c K σ := h
theorem YP {c : Code} {σ' : St} (hw : ∀ (x : Cx) (g : Gh) (a : Act) (w : World), x.P = M.P -> x.N = N -> Rel x g σ a w -> ∃ g', Rel x g' σ' a w) (h : AC M N pl c K σ') : AC M N pl c K σ := by
 intro hck x g a w Q hx hN hr hQ
 obtain ⟨g', hr'⟩ := hw x g a w hx hN hr
 exact h hck x g' a w Q hx hN hr' hQ
theorem yS {c : Code} (id : Nat) (o : Ob) (hb : σ.b id = some o) (hd : deepO o = true) (h : AC M N pl c K (σ.fr id o)) : AC M N pl c K σ := YP (fun x g a w _ _ hr => hr.freeze id o hb hd) h
def Wk (M : Md) (N : Nat) (σ σ' : St) : Prop := ∀ (x : Cx) (g : Gh) (a : Act) (w : World), x.P = M.P -> x.N = N -> Rel x g σ a w -> ∃ g', Rel x g' σ' a w
theorem vu {c : Code} (J : Nat -> St -> Prop) (n0 : Nat) (h0 : J n0 σ) (round : ∀ n σ, J n σ -> ∀ K' : St -> Prop, (∀ n' σ' σ'', n' < n -> Wk M N σ' σ'' -> J n' σ'' -> K' σ') -> AC M N pl c (X6 K' K) σ) : ACL M N pl c K σ := by
 intro hck x g a w Q hx hN hr hQ
 simp only [chkC] at hck
 refine wp_loop_ghost (fun n a w => ∃ σ g, Rel x g σ a w /\ J n σ) n0 ⟨σ, g, hr, h0⟩ ?_
 rintro n a w ⟨σ, g, hr, hJ⟩
 refine round n σ hJ (fun σ' => ∃ n' σ'', n' < n /\ Wk M N σ' σ'' /\ J n' σ'') (fun n' σ' σ'' h1 h2 h3 => ⟨n', σ'', h1, h2, h3⟩) hck x g a w _ hx hN hr fun e σ' g' a' w' hr' hK => ?_
 cases e with
 | normal =>
  obtain ⟨n', σ'', hlt, hw, hJ'⟩ := hK
  obtain ⟨g'', hr''⟩ := hw x g' a' w' hx hN hr'
  exact ⟨n', hlt, σ'', g'', hr'', hJ'⟩
 | exit id => exact hQ _ _ _ _ _ hr' hK
 | goto l => exact hQ _ _ _ _ _ hr' hK
 | ret => exact hQ _ _ _ _ _ hr' hK
 | panic c => exact hQ _ _ _ _ _ hr' hK
 | outgrown => exact hQ _ _ _ _ _ hr' hK
theorem Wk_open (id i j nm : Nat) {e k : Nat} {rows : List (List D)} {row : List D} {d : D} {o : Ob} (hb : σ.b id = some (.arr e k rows)) (hi : rows[i]? = some row) (hd : row[j]? = some d) (hu : unfD d = some o) (hne : nm ≠ id) (hnP : isP nm = false) : Wk M N σ (σ.opE id e k rows i j nm d o) := fun x g a w _ _ hr => hr.openE hb i j nm hi hd hu hne hnP
theorem vk {c : Code} (id i j nm : Nat) {e k : Nat} {rows : List (List D)} {row : List D} {d : D} {o : Ob} (hb : σ.b id = some (.arr e k rows)) (hi : rows[i]? = some row) (hd : row[j]? = some d) (hu : unfD d = some o) (hne : nm ≠ id) (hnP : isP nm = false) (h : AC M N pl c K (σ.opE id e k rows i j nm d o)) : AC M N pl c K σ := YP (Wk_open id i j nm hb hi hd hu hne hnP) h
theorem uf (id nm : Nat) {e k i j : Nat} {rows : List (List D)} {r d : D} {ob : Prop} (hb : σ.b id = some (.hol e k rows i j r)) (hf : fdC σ r = some (ob, d)) (ho : ob) (hr : idC r = some nm) (hne : nm ≠ id) : Wk M N σ ((σ.sc (pOut [nm]) (pOut [nm])).setB id (.arr e k (rows.set i ((rows.getD i []).set j d)))) := fun x g a w _ _ hr' => hr'.closeE hb hf ho hr hne
theorem AC_close {c : Code} (id nm : Nat) {e k i j : Nat} {rows : List (List D)} {r d : D} {ob : Prop} (hb : σ.b id = some (.hol e k rows i j r)) (hf : fdC σ r = some (ob, d)) (ho : ob) (hr : idC r = some nm) (hne : nm ≠ id) (h : AC M N pl c K ((σ.sc (pOut [nm]) (pOut [nm])).setB id (.arr e k (rows.set i ((rows.getD i []).set j d))))) : AC M N pl c K σ := YP (uf id nm hb hf ho hr hne) h
theorem x5 {c : Code} (i : Nat) {k : Nat} {rows : List (List D)} (hi : xu (σ.t i) = .sl k rows) (ho : oblT (σ.t i)) (h : rows.length <= 9223372036854775807 -> AC M N pl c K σ) : AC M N pl c K σ := by
 intro hck x g a w Q hx hN hr hQ
 have hb := y8 (hr.tm i) ho
 rw [hi] at hb
 obtain ⟨_, _, _, h1, h2⟩ := Rep.sl_shape (show Rep g.S g.up w none (.sl k rows) _ from hb)
 exact h (by unfold maxLen at h2; omega) hck x g a w Q hx hN hr hQ
end
def aRv (P : Program) (σ : St) : ResultVar -> Option (Prop × D)
 | .tmp t => some (oblT (σ.t t), xu (σ.t t))
 | .cell t ty => match uS P σ ty (xu (σ.t t)) with
  | some (ob, y) => some (oblT (σ.t t) /\ ob, y)
  | none => none
def aRvs (P : Program) (σ : St) : List ResultVar -> Option (Prop × List D)
 | [] => some (True, [])
 | r :: l => match aRv P σ r, aRvs P σ l with
  | some (ob, y), some (ob', ys) => some (ob /\ ob', y :: ys)
  | _, _ => none
def mkRes : List D -> D
 | [y] => y
 | ys => .tup ys
def rvS (tmps : Array Value) : ResultVar -> Sem Value
 | .tmp t => pure (tmps.getD t undef)
 | .cell p t => do loadVar t (<- asAddr (tmps.getD p undef))
theorem xaE (fn : Func) (tmps : Array Value) : results fn tmps = (do let vs <- fn.results.mapM (rvS tmps); pure (if h : vs.size = 1 then vs[0] else .tuple vs)) := by
 unfold results
 congr 1
theorem aRv_ok {x : Cx} {g : Gh} {σ : St} {a : Act} {w : World} (hr : Rel x g σ a w) {rv : ResultVar} {ob : Prop} {y : D} (h : aRv x.P σ rv = some (ob, y)) (ho : ob) :
  ∃ v, (rvS a.tmps rv).run x.P w = .ok v w /\ RE g w y v := by
 unfold aRv at h
 split at h
 ·rename_i t
  injection h with h; injection h with e1 e2
  subst e1 e2
  exact ⟨_, rfl, y8 (hr.tm t) ho⟩
 ·rename_i t ty
  split at h
  ·rename_i ob' y' h'
   injection h with h; injection h with e1 e2
   subst e1 e2
   have hb := y8 (hr.tm t) ho.1
   obtain ⟨r, r1, r2⟩ := VA h' ho.2 hr hb
   refine ⟨r, ?_, r2⟩
   have hp : ∃ ad, a.tmps.getD t undef = .pointer (some ad) := by
    generalize a.tmps.getD t undef = v at hb
    unfold uS at h'
    split at h'
    ·rename_i row hrow
     rw [hrow] at hb
     obtain ⟨b, o, rfl⟩ := Rep.pt_shape (show Rep g.S g.up w none (.pt row) v from hb)
     exact ⟨_, rfl⟩
    ·rename_i id off hrow
     rw [hrow] at hb
     obtain ⟨b, -, rfl⟩ := hb
     exact ⟨_, rfl⟩
    ·rename_i id k i off hrow
     rw [hrow] at hb
     obtain ⟨b, -, rfl⟩ := hb
     exact ⟨_, rfl⟩
    ·cases h'
   obtain ⟨ad, had⟩ := hp
   rw [had] at r1
   simp only [rvS, had, asAddr, Sem.run_bind, Sem.run_pure, Result.andThen_ok]
   simpa [Instr.loadAt, Instr.sureAddr] using r1
  ·cases h
theorem aRvs_ok {x : Cx} {g : Gh} {σ : St} {a : Act} {w : World} (hr : Rel x g σ a w) : ∀ (l : List ResultVar) (ob : Prop) (ys : List D), aRvs x.P σ l = some (ob, ys) -> ob ->
  ∃ vs : List Value, (l.mapM (rvS a.tmps) : Sem (List Value)).run x.P w = .ok vs w /\ vs.length = ys.length /\ ∀ (j : Nat) (y : D) (u : Value), ys[j]? = some y -> vs[j]? = some u -> RE g w y u
 | [], ob, ys, h, ho => by
  injection h with h; injection h with e1 e2
  subst e2
  exact ⟨[], rfl, rfl, fun j y u q => by simp at q⟩
 | r :: l, ob, ys, h, ho => by
  unfold aRvs at h
  split at h
  ·rename_i ob1 y1 ob2 ys2 h1 h2
   injection h with h; injection h with e1 e2
   subst e1 e2
   obtain ⟨v, v1, v2⟩ := aRv_ok hr h1 ho.1
   obtain ⟨vs, w1, w2, w3⟩ := aRvs_ok hr l _ _ h2 ho.2
   refine ⟨v :: vs, ?_, by simp [w2], fun j y u q r => ?_⟩
   ·rw [List.mapM_cons, Sem.run_bind, v1]
    simp only [Result.andThen_ok, Sem.run_bind, w1, Sem.run_pure]
   ·cases j with
    | zero => simp at q r; subst q r; exact v2
    | succ j => exact w3 j y u (by simpa using q) (by simpa using r)
  ·cases h
def pPar (j l : Nat) : Nat := 900000 + 100 * j + l
def entL (j : Nat) : Nat -> List D -> List D
 | _, [] => []
 | l, c :: r => refC (pPar j l) c :: entL j (l + 1) r
def entD (j : Nat) : D -> D
 | .ag xs => .ag (entL j 0 xs)
 | c => refC (pPar j 0) c
def entO (ars : List D) (i : Nat) : Option Ob := if isP i = true then (ars[(i - 900000) / 100]?).bind fun c => (ye c ((i - 900000) % 100)).bind unfD else none
def St.ent (ars : List D) : St := ⟨fun i => match ars[i]? with
 | some d => entD i d
 | none => .un, entO ars⟩
def lenA : List D -> Bool
 | [] => true
 | .ag xs :: r => decide (xs.length <= 100) && lenA r
 | _ :: r => lenA r
theorem WV : ∀ (l : List D), lenA l = true -> ∀ (j : Nat) (xs : List D), l[j]? = some (.ag xs) -> xs.length <= 100
 | [], _, j, xs, h => by simp at h
 | c :: l, hl, j, xs, h => by
  have ht : lenA l = true := by cases c <;> simp_all [lenA]
  cases j with
  | zero => simp at h; subst h; simp only [lenA, Bool.and_eq_true, decide_eq_true_eq] at hl; exact hl.1
  | succ j => exact WV l ht j xs (by simpa using h)
def opnS : Nat -> List D -> St -> St
 | _, [], σ => σ
 | j, .opa _ row :: r, σ => opnS (j + 1) r (σ.unfB (pPar j 0) row)
 | j, _ :: r, σ => opnS (j + 1) r σ
def opnB : List D -> Bool
 | [] => true
 | .opa _ row :: r => row.all zN && opnB r
 | _ :: r => opnB r
theorem entL_at (j : Nat) : ∀ (l : List D) (q n : Nat), (entL j q l)[n]? = (l[n]?).map (refC (pPar j (q + n)))
 | [], q, n => by simp [entL]
 | c :: l, q, 0 => by simp [entL]
 | c :: l, q, n + 1 => by
  rw [entL, List.getElem?_cons_succ, entL_at j l (q + 1) n, List.getElem?_cons_succ, show q + 1 + n = q + (n + 1) by omega]
theorem entL_len (j : Nat) (l : List D) (q : Nat) : (entL j q l).length = l.length := by
 induction l generalizing q with
 | nil => rfl
 | cons c l ih => simp [entL, ih]
theorem RA_at {g : Gh} {w : World} {j : Nat} {x : D} {u : Value} (h : RA g w j x u) {l : Nat} {c : D} (hc : ye x l = some c) : Rep g.S g.up w (some (.par j l)) c (xx u l) := by
 have one : ∀ d : D, Rep g.S g.up w (some (.par j 0)) d u -> (if l = 0 then some d else none) = some c -> Rep g.S g.up w (some (.par j l)) c (xx u l) := by
  intro d h' hc'
  split at hc'
  ·rename_i e; subst e; injection hc' with hc'; subst hc'
   rw [zg h'.one]; exact h'
  ·cases hc'
 cases x with
 | ag xs =>
  obtain ⟨us, rfl, h1, h2⟩ := h
  have hl : l < us.length := by rw [h1]; exact (List.getElem?_eq_some_iff.1 hc).1
  have hu := List.getElem?_eq_getElem hl
  have : xx (.agg us.toArray) l = us[l] := vg hu
  rw [this]
  exact h2 l c _ hc hu
 | _ => simp only [RA] at h; exact one _ h hc
def enP : Pos -> Pos
 | .par j l => .root (pPar j l)
 | p => p
theorem ZZ {j l : Nat} (hj : j <= 900) (hl : l < 100) : isP (pPar j l) = true /\ (pPar j l - 900000) / 100 = j /\ (pPar j l - 900000) % 100 = l := by
 unfold isP pPar
 refine ⟨?_, by omega, by omega⟩
 simp only [Bool.and_eq_true, decide_eq_true_eq]; omega
theorem pPar_of {i : Nat} (h : isP i = true) : pPar ((i - 900000) / 100) ((i - 900000) % 100) = i := by
 unfold isP at h
 simp only [Bool.and_eq_true, decide_eq_true_eq] at h
 unfold pPar; omega
def entG (g : Gh) (vs : List Value) : Gh := ⟨fun i => if isP i = true then blkV (xx (vs.getD ((i - 900000) / 100) undef) ((i - 900000) % 100)) else none, fun i => if isP i = true then capV (xx (vs.getD ((i - 900000) / 100) undef) ((i - 900000) % 100)) else 0, fun b => (g.up b).map enP, g.S⟩
theorem Rel.entry {P : Program} {N : Nat} {w : World} {g : Gh} {ars : List D} {vs : List Value} (h1 : ∀ b, g.S b -> b < w.heap.size) (h2 : ∀ b p, g.up b = some p -> b < w.heap.size /\ ¬ g.S b) (hl : vs.length = ars.length) (hv : ∀ (j : Nat) (d : D) (u : Value), ars[j]? = some d -> vs[j]? = some u -> RA g w j d u) (hA : lenA ars = true) (hn : ars.length <= 900) (hN : ars.length <= N) :
  Rel ⟨P, N, g.S, fun b => g.up b ≠ none, w, (entG g vs).β, (entG g vs).κ⟩ (entG g vs) (St.ent ars) ⟨vs.toArray ++ Array.replicate (N - vs.toArray.size) undef, []⟩ w := by
 have mv : ∀ {p : Option Pos} {c : D} {u : Value}, Rep g.S g.up w p c u -> Rep (entG g vs).S (entG g vs).up w (p.map enP) c u := fun h => by
  have m : Mv (fun _ => True) enP g (entG g vs) w w := ⟨fun b hb => ⟨hb, rfl⟩, fun b p hb _ => ⟨by show (g.up b).map enP = _; rw [hb]; rfl, rfl⟩, fun b p o _ _ => ⟨trivial, rfl⟩⟩
  exact Rep.move m h (fun _ _ => trivial)
 have hcell : ∀ (j l : Nat) (d c : D), ars[j]? = some d -> ye d l = some c -> l < 100 -> ∃ u, vs[j]? = some u /\ Rep (entG g vs).S (entG g vs).up w (some (.root (pPar j l))) c (xx u l) /\ (entG g vs).β (pPar j l) = blkV (xx u l) /\ (entG g vs).κ (pPar j l) = capV (xx u l) := fun j l d c hd hc hl' => by
  have hj : j < vs.length := by rw [hl]; exact (List.getElem?_eq_some_iff.1 hd).1
  have hu : vs[j]? = some vs[j] := List.getElem?_eq_getElem hj
  obtain ⟨e1, e2, e3⟩ := ZZ (j := j) (l := l) (by omega) hl'
  refine ⟨vs[j], hu, mv (RA_at (hv j d _ hd hu) hc), ?_, ?_⟩
  ·show (if _ then _ else _) = _
   rw [if_pos e1, e2, e3, xZ hu]
  ·show (if _ then _ else _) = _
   rw [if_pos e1, e2, e3, xZ hu]
 refine ⟨Below.refl _ _, fun _ _ _ => rfl, rfl, by simp [hl]; omega, fun i => ?_, fun _ q => q, fun b _ q => .inl q, h1, fun b p hp => ?_, fun i o ho => ?_, fun i o _ _ => ⟨rfl, rfl⟩⟩
 ·simp only [St.ent]
  cases ha : ars[i]? with
  | none => trivial
  | some d =>
   have hlt : i < vs.length := by rw [hl]; exact (List.getElem?_eq_some_iff.1 ha).1
   have hg : (vs.toArray ++ Array.replicate (N - vs.toArray.size) undef).getD i undef = vs[i] := by
    rw [Array.getD_eq_getD_getElem?, Array.getElem?_append_left (by simpa using hlt)]
    simp [List.getElem?_eq_getElem hlt]
   rw [hg]
   have hu : vs[i]? = some vs[i] := List.getElem?_eq_getElem hlt
   have hri := hv i d _ ha hu
   have one : ∀ c, ye d 0 = some c -> vs[i].oneCell' = true -> RC (entG g vs) w none (refC (pPar i 0) c) vs[i] := fun c hc h1 => by
    obtain ⟨u, q1, q2, q3, q4⟩ := hcell i 0 d c ha hc (by omega)
    rw [hu] at q1; injection q1 with q1; subst q1
    rw [zg h1] at q2 q3 q4
    exact q2.ref q3 q4
   cases d with
   | ag xs =>
    have hx := WV ars hA i xs ha
    obtain ⟨us, e, u1, u2⟩ := hri
    refine RE.rt (d := .ag (entL i 0 xs)) ⟨us, e, by rw [entL_len]; exact u1, fun l c z hc hz => ?_⟩
    rw [entL_at, Nat.zero_add] at hc
    obtain ⟨c0, q1, rfl⟩ := Option.map_eq_some_iff.1 hc
    obtain ⟨u, r1, r2, r3, r4⟩ := hcell i l _ c0 ha q1 (by have := (List.getElem?_eq_some_iff.1 q1).1; omega)
    rw [hu] at r1; injection r1 with r1; subst r1
    have : xx vs[i] l = z := by rw [e]; exact vg hz
    rw [this] at r2 r3 r4
    exact r2.ref r3 r4
   | un => trivial
   | tup _ => simp only [RA] at hri; cases hri
   | mb _ _ => simp only [RA] at hri; cases hri
   | bx _ _ => simp only [RA] at hri; cases hri
   | el _ _ _ _ => simp only [RA] at hri; cases hri
   | bs _ _ _ => simp only [RA] at hri; cases hri
   | _ => simp only [RA] at hri; exact (one _ rfl hri.one).re.rt
 ·obtain ⟨p', hp', -⟩ := Option.map_eq_some_iff.1 (show (g.up b).map enP = some p from hp)
  obtain ⟨q1, q2⟩ := h2 b p' hp'
  exact ⟨q1, fun _ => by show g.up b ≠ none; rw [hp']; simp, q2⟩
 ·have ho : entO ars i = some o := ho
  unfold entO at ho
  split at ho
  ·rename_i hp
   obtain ⟨d, q1, q2⟩ := Option.bind_eq_some_iff.1 ho
   obtain ⟨c, q3, q4⟩ := Option.bind_eq_some_iff.1 q2
   obtain ⟨u, r1, r2, r3, r4⟩ := hcell _ _ d c q1 q3 (Nat.mod_lt _ (by omega))
   rw [pPar_of hp] at r2 r3 r4
   exact r2.ro q4 r3 (fun _ _ _ _ => r4)
  ·cases ho
theorem opnB_at : ∀ (l : List D), opnB l = true -> ∀ (j k : Nat) (row : List D), l[j]? = some (.opa k row) -> row.all zN = true
 | [], _, j, _, row, h => by simp at h
 | c :: l, hl, j, k, row, h => by
  have ht : opnB l = true := by cases c <;> simp_all [opnB]
  cases j with
  | zero => simp at h; subst h; simp only [opnB, Bool.and_eq_true] at hl; exact hl.1
  | succ j => exact opnB_at l ht j k row (by simpa using h)
theorem opn_ok {x : Cx} {a : Act} {w : World} : ∀ (l : List D) (j : Nat) (σ : St) (g : Gh), Rel x g σ a w -> opnB l = true -> j + l.length <= 900 -> (∀ (q k : Nat) (row : List D), l[q]? = some (.opa k row) -> σ.b (pPar (j + q) 0) = some (.box row)) -> ∃ g', Rel x g' (opnS j l σ) a w
 | [], j, σ, g, h, _, _, _ => ⟨g, h⟩
 | c :: l, j, σ, g, h, hb, hl, hr => by
  simp only [List.length_cons] at hl
  have tl : ∀ σ' g', opnS j (c :: l) σ = opnS (j + 1) l σ' -> Rel x g' σ' a w -> opnB l = true -> (∀ (q k : Nat) (row : List D), l[q]? = some (.opa k row) -> σ'.b (pPar (j + 1 + q) 0) = some (.box row)) -> ∃ g', Rel x g' (opnS j (c :: l) σ) a w := fun σ' g' e h1 h2 h3 => by
   rw [e]; exact opn_ok l (j + 1) σ' g' h1 h2 (by omega) h3
  have rest : ∀ (q k : Nat) (row : List D), l[q]? = some (.opa k row) -> σ.b (pPar (j + 1 + q) 0) = some (.box row) := fun q k row hq => by
   have := hr (q + 1) k row (by simpa using hq)
   rw [show j + (q + 1) = j + 1 + q by omega] at this; exact this
  cases c with
  | opa k row =>
   simp only [opnB, Bool.and_eq_true] at hb
   have h0 := hr 0 k row rfl
   obtain ⟨g1, q1⟩ := h.unfB (id := pPar j 0) h0 hb.1 (by unfold pPar; omega)
   refine tl _ g1 rfl q1 hb.2 fun q k' row' hq => ?_
   have hlt := (List.getElem?_eq_some_iff.1 hq).1
   simp only [St.unfB]
   rw [if_neg (by unfold pPar; omega)]
   have : unfO (pPar j 0) row (pPar (j + 1 + q) 0) = none := by
    unfold unfO
    rw [if_neg (by unfold pPar; omega)]
   rw [this]
   simp only
   rw [rest q k' row' hq]
   simp only [Option.map_some, scO]
   have hdeep : ∀ y ∈ row', scC (pUn (pPar j 0) row) y = y := fun y hy => by
    have := opnB_at l hb.2 q k' row' hq
    have := List.all_eq_true.1 this y hy
    cases y <;> first | rfl | cases this
   rw [List.map_congr_left hdeep, List.map_id']
  | _ => exact tl σ g rfl h (by simpa [opnB] using hb) rest
def XH : List Nat -> St -> Option (Prop × St)
 | [], σ => some (True, σ)
 | i :: r, σ => match σ.b i with
  | some (.box _) => match foldB σ i with
   | some (ob, _, σ1) => match XH r σ1 with
    | some (o2, σ2) => some (ob /\ o2, σ2)
    | none => none
   | none => none
  | _ => XH r σ
theorem XI {x : Cx} {a : Act} {w : World} : ∀ (l : List Nat) {g : Gh} {σ σ' : St} {ob : Prop}, Rel x g σ a w -> XH l σ = some (ob, σ') -> ob -> ∃ g', Rel x g' σ' a w
 | [], g, σ, σ', ob, h, hf, ho => by injection hf with hf; injection hf with e1 e2; subst e2; exact ⟨g, h⟩
 | i :: l, g, σ, σ', ob, h, hf, ho => by
  unfold XH at hf
  split at hf
  ·split at hf
   ·rename_i ob1 ds σ1 h1
    split at hf
    ·rename_i o2 σ2 h2
     injection hf with hf; injection hf with e1 e2
     subst e1 e2
     obtain ⟨g1, q1⟩ := h.foldB h1 ho.1
     exact XI l q1 h2 ho.2
    ·cases hf
   ·cases hf
  ·exact XI l h hf ho
def boxP : Nat -> List D -> List Nat
 | _, [] => []
 | j, .opa _ _ :: r => pPar j 0 :: boxP (j + 1) r
 | j, _ :: r => boxP (j + 1) r
def boxC : List D -> List Nat
 | [] => []
 | .bx id _ :: r => id :: boxC r
 | _ :: r => boxC r
def cellsY : List D -> List D
 | [] => []
 | y :: r => yU y ++ cellsY r
def gvY : Nat -> List D -> List Gv
 | _, [] => []
 | m, y :: r => gvL m 0 (yU y) ++ gvY (m + 1) r
def treY (σ : St) : D -> Option (Prop × D)
 | .ag xs => match fdL σ xs with
  | some (ob, ds) => some (ob, .ag ds)
  | none => none
 | .un => some (True, .un)
 | .tup _ => none
 | .mb _ _ => none
 | c => fdC σ c
def treL (σ : St) : List D -> Option (Prop × List D)
 | [] => some (True, [])
 | y :: r => match treY σ y, treL σ r with
  | some (o1, d), some (o2, ds) => some (o1 /\ o2, d :: ds)
  | _, _ => none
def outC (σ : St) (ids : List Nat) (nm : Nat) : D -> D
 | .opa k _ => if pOut ids nm = true then (match σ.b nm with
  | some (.box row) => if row.all zN = true then .opa k row else .un
  | _ => .un) else .un
 | .osl _ _ rows => if pOut ids nm = true then (match σ.b nm with
  | some (.arr e k rows') => if rows'.length = rows.length then .osl e k rows' else .un
  | _ => .un) else .un
 | _ => .un
def outL (σ : St) (ids : List Nat) (j : Nat) : Nat -> List D -> List D
 | _, [] => []
 | l, c :: r => outC σ ids (pPar j l) c :: outL σ ids j (l + 1) r
def ownB : D -> Bool
 | .osl _ _ _ => true
 | .opa _ _ => true
 | _ => false
def outD (σ : St) (ids : List Nat) (j : Nat) : D -> D
 | .ag xs => if xs.any ownB = true then .ag (outL σ ids j 0 xs) else .un
 | c => outC σ ids (pPar j 0) c
def XQ (σ : St) (ids : List Nat) : Nat -> List D -> List D
 | _, [] => []
 | j, c :: r => outD σ ids j c :: XQ σ ids (j + 1) r
def retM (P : Program) (rs : List ResultVar) (ars : List D) (Rs : D -> List D -> Prop) (σ : St) : Prop := match XH (boxP 0 ars) σ with
 | some (o1, σ1) => match aRvs P σ1 rs with
  | some (_, ys0) => match XH (boxC (cellsY ys0)) σ1 with
   | some (o2, σ2) => match aRvs P σ2 rs with
    | some (o3, ys) => match treL σ2 ys with
     | some (o4, zs) => o1 /\ o2 /\ o3 /\ o4 /\ nodB (gvN (gvY 0 ys)) = true /\ Rs (mkRes zs) (XQ σ2 (gvN (gvY 0 ys)) 0 ars)
     | none => False
    | none => False
   | none => False
  | none => False
 | none => False
def retK (P : Program) (rs : List ResultVar) (ars : List D) (Rs : D -> List D -> Prop) : Exit -> St -> Prop
 | .normal, σ => retM P rs ars Rs σ
 | .ret, σ => retM P rs ars Rs σ
 | _, _ => False
theorem gvY_of : ∀ (ys : List D) (q m : Nat) (y c : D) (l i : Nat), ys[m]? = some y -> (yU y)[l]? = some c -> idC c = some i -> (i, q + m, l) ∈ gvY q ys
 | [], q, m, y, c, l, i, h, _, _ => by simp at h
 | z :: ys, q, 0, y, c, l, i, h, hc, hi => by
  simp at h; subst h
  have := gvL_of q _ 0 l c i hc hi
  rw [Nat.zero_add] at this
  exact List.mem_append_left _ this
 | z :: ys, q, m + 1, y, c, l, i, h, hc, hi => by
  have := gvY_of ys (q + 1) m y c l i (by simpa using h) hc hi
  rw [show q + 1 + m = q + (m + 1) by omega] at this
  exact List.mem_append_right _ this
theorem treL_at {σ : St} : ∀ (l : List D) (ob : Prop) (ds : List D), treL σ l = some (ob, ds) -> ob -> ds.length = l.length /\ ∀ (j : Nat) (c d : D), l[j]? = some c -> ds[j]? = some d -> ∃ o1, treY σ c = some (o1, d) /\ o1
 | [], ob, ds, h, ho => by injection h with h; injection h with e1 e2; subst e2; exact ⟨rfl, fun j c d q => by simp at q⟩
 | c :: l, ob, ds, h, ho => by
  unfold treL at h
  split at h
  ·rename_i o1 d o2 ds' h1 h2
   injection h with h; injection h with e1 e2
   subst e1 e2
   obtain ⟨i1, i2⟩ := treL_at l o2 ds' h2 ho.2
   refine ⟨by simp [i1], fun j c' d' q1 q2 => ?_⟩
   cases j with
   | zero => simp at q1 q2; subst q1 q2; exact ⟨o1, h1, ho.1⟩
   | succ j => exact i2 j c' d' (by simpa using q1) (by simpa using q2)
  ·cases h
theorem outL_at (σ : St) (ids : List Nat) (j : Nat) : ∀ (l : List D) (q n : Nat), (outL σ ids j q l)[n]? = (l[n]?).map (outC σ ids (pPar j (q + n)))
 | [], q, n => by simp [outL]
 | c :: l, q, 0 => by simp [outL]
 | c :: l, q, n + 1 => by
  rw [outL, List.getElem?_cons_succ, outL_at σ ids j l (q + 1) n, List.getElem?_cons_succ, show q + 1 + n = q + (n + 1) by omega]
theorem outL_len (σ : St) (ids : List Nat) (j : Nat) (l : List D) (q : Nat) : (outL σ ids j q l).length = l.length := by
 induction l generalizing q with
 | nil => rfl
 | cons c l ih => simp [outL, ih]
theorem Qk (σ : St) (ids : List Nat) : ∀ (l : List D) (q n : Nat), (XQ σ ids q l)[n]? = (l[n]?).map (outD σ ids (q + n))
 | [], q, n => by simp [XQ]
 | c :: l, q, 0 => by simp [XQ]
 | c :: l, q, n + 1 => by
  rw [XQ, List.getElem?_cons_succ, Qk σ ids l (q + 1) n, List.getElem?_cons_succ, show q + 1 + n = q + (n + 1) by omega]
def reP (gs : List Gv) : Pos -> Pos
 | .root i => match gvF gs i with
  | some (m, l) => .ans m l
  | none => if isP i = true then .par ((i - 900000) / 100) ((i - 900000) % 100) else .root i
 | p => p
theorem gvF_none {gs : List Gv} {i : Nat} (h : pOut (gvN gs) i = true) : gvF gs i = none := by
 cases q : gvF gs i with
 | none => rfl
 | some p => exact absurd rfl (xt h i (List.mem_map.2 ⟨_, gvF_mem (j := p.1) (l := p.2) q, rfl⟩))
theorem ret_ok {P : Program} {N : Nat} {w0 : World} {g0 : Gh} {ars : List D} {vs : List Value} (hl : vs.length = ars.length) (hn : ars.length <= 900) (hA : lenA ars = true) (hv : ∀ (j : Nat) (d : D) (u : Value), ars[j]? = some d -> vs[j]? = some u -> RA g0 w0 j d u) {rs : List ResultVar} {fn : Func} (hrs : fn.results = rs.toArray) {Rs : D -> List D -> Prop}
  {x : Cx} (hx : x = ⟨P, N, g0.S, fun b => g0.up b ≠ none, w0, (entG g0 vs).β, (entG g0 vs).κ⟩) {g : Gh} {σ : St} {a : Act} {w : World} (hr : Rel x g σ a w) (h : retM P rs ars Rs σ) :
  a.defers = [] /\ ∃ v, (results fn a.tmps).run P w = .ok v w /\ ∃ v' g' r outs, Ending.returned v = .returned v' /\ Below 0 w0 w /\ (∀ b, b < w0.heap.size -> g0.up b = none -> w.heap[b]? = w0.heap[b]?) /\ (∀ b, g0.S b -> Gh.S g' b) /\ (∀ b, b < w0.heap.size -> g'.S b -> g0.S b \/ g0.up b ≠ none) /\ (∀ b, g'.S b -> b < w.heap.size) /\
   (∀ b p, g'.up b = some p -> b < w.heap.size /\ (b < w0.heap.size -> g0.up b ≠ none) /\ ¬ g'.S b) /\ Rs r outs /\ RNs g' w r v' /\ ∀ (j : Nat) (d : D) (u : Value), outs[j]? = some d -> vs[j]? = some u -> RU g' w j d u := by
 have hP : x.P = P := by rw [hx]
 unfold retM at h
 split at h
 ·rename_i o1 σ1 f1
  split at h
  ·rename_i q0 ys0 a1
   split at h
   ·rename_i o2 σ2 f2
    split at h
    ·rename_i o3 ys a2
     split at h
     ·rename_i o4 zs t1
      obtain ⟨p1, p2, p3, p4, p5, p6⟩ := h
      obtain ⟨g1, hr1⟩ := XI _ hr f1 p1
      obtain ⟨g2, hr2⟩ := XI _ hr1 f2 p2
      rw [<- hP] at a2
      obtain ⟨vs', w1, w2, w3⟩ := aRvs_ok hr2 _ _ _ a2 p3
      rw [hP] at w1
      let gs := gvY 0 ys
      let gr : Gh := ⟨g2.β, g2.κ, fun b => (g2.up b).map (reP gs), g2.S⟩
      have mv : ∀ {p : Option Pos} {c : D} {u : Value}, Rep g2.S g2.up w p c u -> Rep gr.S gr.up w (p.map (reP gs)) c u := fun h => by
       have m : Mv (fun _ => True) (reP gs) g2 gr w w := ⟨fun b hb => ⟨hb, rfl⟩, fun b p hb _ => ⟨by show (g2.up b).map _ = _; rw [hb]; rfl, rfl⟩, fun b p o _ _ => ⟨trivial, rfl⟩⟩
       exact Rep.move m h (fun _ _ => trivial)
      obtain ⟨l1, l2⟩ := treL_at _ _ _ t1 p4
      have cell : ∀ (m l : Nat) (y c d : D) (ob : Prop) (u : Value), ys[m]? = some y -> (yU y)[l]? = some c -> fdC σ2 c = some (ob, d) -> ob -> RC g2 w none c u -> Rep gr.S gr.up w (some (.ans m l)) d u := fun m l y c d ob u h1 h2 h3 h4 h5 => by
       rcases Xp hr2 h3 h4 h5 with ⟨q1, q2⟩ | ⟨i, q1, q2⟩
       ·exact (mv q2).any _
       ·have hm := gvY_of ys 0 m y c l i h1 h2 q1
        rw [Nat.zero_add] at hm
        have := mv q2
        have hm' : gvF gs i = some (m, l) := gvF_of p5 hm
        simp only [Option.map_some, reP, hm'] at this
        exact this
      have hRN : ∀ (m : Nat) (y z : D) (u : Value), ys[m]? = some y -> zs[m]? = some z -> vs'[m]? = some u -> RN gr w m z u := fun m y z u h1 h2 h3 => by
       obtain ⟨ob, q1, q2⟩ := l2 m y z h1 h2
       have hu := w3 m y u h1 h3
       cases y with
       | ag xs =>
        simp only [treY] at q1
        split at q1
        ·rename_i ob' ds hf
         injection q1 with q1; injection q1 with e1 e2
         subst e1 e2
         obtain ⟨us, rfl, u1, u2⟩ := hu
         obtain ⟨k1, k2⟩ := Wv _ _ _ hf q2
         refine ⟨us, rfl, by rw [u1, k1], fun l d z hd hz => ?_⟩
         have hlt : l < xs.length := by rw [<- k1]; exact (List.getElem?_eq_some_iff.1 hd).1
         have hc : xs[l]? = some xs[l] := List.getElem?_eq_getElem hlt
         obtain ⟨o5, k3, k4⟩ := k2 l _ d hc hd
         exact cell m l _ _ d o5 z h1 hc k3 k4 (u2 l _ z hc hz)
        ·cases q1
       | un => simp only [treY] at q1; injection q1 with q1; injection q1 with e1 e2; subst e2; trivial
       | tup _ => cases q1
       | mb _ _ => cases q1
       | _ =>
        simp only [treY] at q1
        simp only [RE] at hu
        have := cell m 0 _ _ z ob u h1 rfl q1 q2 hu
        cases z <;> first | exact this | cases this
      have hres : ∃ v, (results fn a.tmps).run P w = .ok v w /\ RNs gr w (mkRes zs) v := by
       rw [xaE, Array.mapM_eq_mapM_toList]
       have w1 : (List.mapM (rvS a.tmps) fn.results.toList).run P w = .ok vs' w := by rw [hrs]; exact w1
       simp only [Sem.run_bind, Sem.run_map, w1, Result.andThen_ok, Sem.run_pure]
       match ys, zs, vs', l1, w2, hRN with
       | [], [], [], _, _, _ => exact ⟨_, rfl, [], rfl, rfl, fun m y u q => by simp at q⟩
       | [y], [z], [v], _, _, hRN =>
        refine ⟨v, by simp, ?_⟩
        have := hRN 0 y z v rfl rfl rfl
        cases z <;> first | exact this | (simp only [RN] at this; cases this)
       | y1 :: y2 :: ys, z1 :: z2 :: zs, v1 :: v2 :: vs', l1, w2, hRN =>
        refine ⟨.tuple (v1 :: v2 :: vs').toArray, by simp, v1 :: v2 :: vs', rfl, by simp at l1 w2 ⊢; omega, fun m z u hz hu => ?_⟩
        have hm : m < (y1 :: y2 :: ys).length := by rw [<- l1]; exact (List.getElem?_eq_some_iff.1 hz).1
        exact hRN m _ z u (List.getElem?_eq_getElem hm) hz hu
      obtain ⟨v, v1, v2⟩ := hres
      have hbβ : x.β0 = (entG g0 vs).β /\ x.κ0 = (entG g0 vs).κ := by rw [hx]; exact ⟨rfl, rfl⟩
      have hout : ∀ (j l : Nat) (d c : D) (u : Value), ars[j]? = some d -> vs[j]? = some u -> ye d l = some c -> l < 100 -> outC σ2 (gvN gs) (pPar j l) c = .un \/ Rep gr.S gr.up w (some (.par j l)) (outC σ2 (gvN gs) (pPar j l) c) (xx u l) := fun j l d c u hd hu hc hl' => by
       obtain ⟨e1, e2, e3⟩ := ZZ (j := j) (l := l) (by have := (List.getElem?_eq_some_iff.1 hd).1; omega) hl'
       have hRA := RA_at (hv j d u hd hu) hc
       have hβ : ∀ o, σ2.b (pPar j l) = some o -> g2.β (pPar j l) = blkV (xx u l) /\ g2.κ (pPar j l) = capV (xx u l) := fun o ho => by
        obtain ⟨q1, q2⟩ := hr2.par _ o ho e1
        rw [q1, q2, hbβ.1, hbβ.2]
        constructor
        ·show (if _ then _ else _) = _
         rw [if_pos e1, e2, e3, xZ hu]
        ·show (if _ then _ else _) = _
         rw [if_pos e1, e2, e3, xZ hu]
       have hpos : pOut (gvN gs) (pPar j l) = true -> reP gs (.root (pPar j l)) = .par j l := fun q => by
        simp only [reP, gvF_none q, if_pos e1, e2, e3]
       cases c with
       | opa k0 row0 =>
        simp only [outC]
        split
        ·rename_i hp
         split
         ·rename_i row hb
          split
          ·rename_i hdp
           right
           obtain ⟨b, cs, ty, b1, b2, b3, b4, b5⟩ := hr2.ob _ _ hb
           have q := (hβ _ hb).1
           generalize xx u l = z at hRA q
           cases hRA with
           | @opa _ _ _ b' ty' cs' r1 r2 r3 r4 =>
            rw [b1] at q
            injection q with q
            subst q
            have := mv (Rep.opa (S := g2.S) (p := .root (pPar j l)) (k := k0) cs b2 b3 b4 fun j' d' hj => (b5 j' d' hj).deep (List.all_eq_true.1 hdp d' (List.mem_of_getElem? hj)))
            rw [Option.map_some, hpos hp] at this
            exact this
          ·exact .inl rfl
         ·exact .inl rfl
        ·exact .inl rfl
       | osl e k rows =>
        simp only [outC]
        split
        ·rename_i hp
         split
         ·rename_i e' k' rows' hb
          split
          ·rename_i hlen
           right
           have hR : Rep g2.S g2.up w (some (.root (pPar j l))) (.osl e' k' rows') (.slice ((g2.β (pPar j l)).map fun b => ⟨b, 0, none⟩) rows'.length (g2.κ (pPar j l))) := hr2.ob _ _ hb
           obtain ⟨q1, q2⟩ := hβ _ hb
           have := mv hR
           rw [Option.map_some, hpos hp, q1, q2, hlen] at this
           generalize xx u l = z at hRA this
           cases hRA with
           | osl0 => exact this
           | osl cs' r1 r2 r3 r4 r5 r6 r7 => exact this
          ·exact .inl rfl
         ·exact .inl rfl
        ·exact .inl rfl
       | _ => exact .inl rfl
      refine ⟨hr.dfr, v, v1, v, gr, _, _, rfl, by have := hr2.bel; rw [hx] at this; exact this, fun b h1 h2 => ?_, fun b hs => ?_, fun b h1 h2 => ?_, hr2.new, fun b p hp => ?_, p6, v2, fun j d u hd hu => ?_⟩
      ·have := hr2.fr b (by rw [hx]; exact h1) (by rw [hx]; simpa using h2)
       rw [hx] at this; exact this
      ·exact hr2.s0 b (by rw [hx]; exact hs)
      ·have := hr2.old b (by rw [hx]; exact h1) h2
       rw [hx] at this; exact this
      ·obtain ⟨p', hp', -⟩ := Option.map_eq_some_iff.1 (show (g2.up b).map _ = some p from hp)
       obtain ⟨k1, k2, k3⟩ := hr2.own b p' hp'
       rw [hx] at k2
       exact ⟨k1, k2, k3⟩
      ·rw [Qk, Nat.zero_add] at hd
       obtain ⟨d0, k1, rfl⟩ := Option.map_eq_some_iff.1 hd
       have one : ∀ c, ye d0 0 = some c -> xx u 0 = u -> (outC σ2 (gvN gs) (pPar j 0) c = .un \/ Rep gr.S gr.up w (some (.par j 0)) (outC σ2 (gvN gs) (pPar j 0) c) u) := fun c hc e => by
        have := hout j 0 d0 c u k1 hu hc (by omega)
        rwa [e] at this
       have hRA0 := hv j d0 u k1 hu
       cases d0 with
       | ag xs =>
        simp only [outD]
        split
        ·obtain ⟨us, e, u1, u2⟩ := hRA0
         refine ⟨us, e, by rw [outL_len]; exact u1, fun l c z hc hz => ?_⟩
         rw [outL_at, Nat.zero_add] at hc
         obtain ⟨c0, k2, rfl⟩ := Option.map_eq_some_iff.1 hc
         have := hout j l _ c0 u k1 hu k2 (by have := WV ars hA j xs k1; have := (List.getElem?_eq_some_iff.1 k2).1; omega)
         have hz' : xx u l = z := by rw [e]; exact vg hz
         rw [hz'] at this
         exact this
        ·trivial
       | opa k0 row0 =>
        simp only [RA] at hRA0
        rcases one _ rfl (zg hRA0.one 0) with q | q
        ·change RU gr w j (outC σ2 (gvN gs) (pPar j 0) (.opa k0 row0)) u; rw [q]; trivial
        ·change RU gr w j (outC σ2 (gvN gs) (pPar j 0) (.opa k0 row0)) u
         generalize outC σ2 (gvN gs) (pPar j 0) (D.opa k0 row0) = z at q
         cases z <;> first | exact q | trivial | cases q
       | osl e k rows0 =>
        simp only [RA] at hRA0
        rcases one _ rfl (zg hRA0.one 0) with q | q
        ·change RU gr w j (outC σ2 (gvN gs) (pPar j 0) (.osl e k rows0)) u; rw [q]; trivial
        ·change RU gr w j (outC σ2 (gvN gs) (pPar j 0) (.osl e k rows0)) u
         generalize outC σ2 (gvN gs) (pPar j 0) (D.osl e k rows0) = z at q
         cases z <;> first | exact q | trivial | cases q
       | _ => trivial
     ·exact h.elim
    ·exact h.elim
   ·exact h.elim
  ·exact h.elim
 ·exact h.elim
theorem FCon.intro (M : Md) {f : FuncId} (fn : Func) {c : Code} (hf : M.P.funcs[f]? = some fn) (hname : (fn.name == "runtime.NumGoroutine") = false) (hb : fn.body = some c) (N : Nat) (hN : fn.ntmps = N) {rs : List ResultVar} (hrs : fn.results = rs.toArray) (pl : List (Nat × Plan)) (hck : chkC pl N c = true) {ars : List D} {Rs : D -> List D -> Prop}
  (hlen : ars.length <= N) (hn : ars.length <= 900) (hA : lenA ars = true) (ho : opnB ars = true) (h : AC M N pl c (retK M.P rs ars Rs) (opnS 0 ars (St.ent ars))) : FCon M.P f ars Rs := by
 refine ⟨fun vs w => ?_, fun w g vs h1 h2 hl hv => calls_of_wp hf hb ?_⟩
 ·have hname' : ¬ fn.name = "runtime.NumGoroutine" := by simpa using hname
  have hbn : ¬ fn.body = none := by rw [hb]; simp
  simp [callFunc, hf, hname', hbn]
 ·have hR := Rel.entry (P := M.P) (N := N) h1 h2 hl hv hA hn hlen
  obtain ⟨g', hR'⟩ := opn_ok ars 0 _ _ hR ho (by omega) (fun q k row hq => by
   have hq' := (List.getElem?_eq_some_iff.1 hq).1
   obtain ⟨e1, e2, e3⟩ := ZZ (j := q) (l := 0) (by omega) (by omega)
   rw [Nat.zero_add]
   show entO ars _ = _
   unfold entO
   rw [if_pos e1, e2, e3, hq]; rfl)
  rw [<- hN] at hR'
  refine h hck _ g' _ w _ rfl hN hR' ?_
  intro e σ' g'' a' w' hr' hK
  cases e with
  | normal => exact ret_ok hl hn hA hv hrs rfl hr' hK
  | ret => exact ret_ok hl hn hA hv hrs rfl hr' hK
  | exit id => exact hK.elim
  | goto l => exact hK.elim
  | panic c => exact hK.elim
  | outgrown => exact hK.elim
section
variable {M : Md} {N : Nat} {pl : List (Nat × Plan)} {K K' : Exit -> St -> Prop} {F : St -> Prop} {σ : St} {ops : Array Oper}
theorem sp_skip : stp M N pl .skip K σ = K .normal σ := rfl
theorem sp_exit {id : Nat} : stp M N pl (.exit id) K σ = K (.exit id) σ := rfl
theorem sp_ret : stp M N pl .ret K σ = K .ret σ := rfl
theorem sp_seq {c d : Code} : stp M N pl (.seq c d) K σ = stp M N pl c (X6 (AC M N pl d K) K) σ := rfl
theorem sp_block {id : Nat} {c : Code} : stp M N pl (.block id c) K σ = stp M N pl c (Xn id K) σ := rfl
theorem sp_cond {z : Operand} {c d : Code} : stp M N pl (.cond z c d) K σ = condV (ev σ z) (AC M N pl c K σ) (AC M N pl d K σ) := rfl
theorem sp_reg {id : Nat} {l : List Oper} : stp M N pl (.region id l.toArray false) K σ = aops (M.at id) l.toArray (K .normal) l σ := rfl
def drwV (M : Md) (ops : Array Oper) (K : St -> Prop) (σ : St) : Option Plan -> Prop
 | some (m, fx, fl, π) => aqsN M ops (flF fl) (aops M ops K (ops.toList.drop m)) π [] σ
 | none => False
theorem sp_drw {id : Nat} {l : List Oper} : stp M N pl (.region id l.toArray true) K σ = drwV (M.at id) l.toArray (K .normal) σ (plF pl id) := by
 show (match plF pl id with | some (m, fx, fl, π) => _ | none => False) = _
 cases plF pl id <;> rfl
theorem sp_loop {c : Code} : stp M N pl (.loop c) K σ = ACL M N pl c K σ := rfl
theorem k_tn : X6 F K .normal σ = F σ := rfl
theorem k_te {i : Nat} : X6 F K (.exit i) σ = K (.exit i) σ := rfl
theorem k_tr : X6 F K .ret σ = K .ret σ := rfl
theorem k_bn {i : Nat} : Xn i K .normal σ = K .normal σ := rfl
theorem k_br {i : Nat} : Xn i K .ret σ = K .ret σ := rfl
theorem k_be {i j : Nat} : Xn i K (.exit j) σ = if j = i then K .normal σ else K (.exit j) σ := rfl
theorem k_rn {P : Program} {rs : List ResultVar} {ars : List D} {Rs : D -> List D -> Prop} : retK P rs ars Rs .normal σ = retM P rs ars Rs σ := rfl
theorem k_rr {P : Program} {rs : List ResultVar} {ars : List D} {Rs : D -> List D -> Prop} : retK P rs ars Rs .ret σ = retM P rs ars Rs σ := rfl
theorem ao_nil : aops M ops F [] σ = F σ := rfl
theorem ao_cons {o : Oper} {l : List Oper} : aops M ops F (o :: l) σ = astep M ops o σ (aops M ops F l) := rfl
theorem ent_t (ars : List D) (i : Nat) : (St.ent ars).t i = match ars[i]? with
 | some d => entD i d
 | none => .un := rfl
theorem ent_b (ars : List D) : (St.ent ars).b = entO ars := rfl
theorem put_t (d : Nat) (y : D) (i : Nat) : (σ.put (some d) y).t i = if i = d then y else σ.t i := rfl
theorem put_b (d : Nat) (y : D) : (σ.put (some d) y).b = σ.b := rfl
theorem put_n (y : D) : σ.put none y = σ := rfl
theorem sc_t (q r : Nat -> Bool) (i : Nat) : (σ.sc q r).t i = scT q (σ.t i) := rfl
theorem sc_b (q r : Nat -> Bool) (i : Nat) : (σ.sc q r).b i = if r i = true then (σ.b i).map (scO q) else none := rfl
theorem setB_t (d : Nat) (o : Ob) (i : Nat) : (σ.setB d o).t i = σ.t i := rfl
theorem setB_b (d : Nat) (o : Ob) (i : Nat) : (σ.setB d o).b i = if i = d then some o else σ.b i := rfl
theorem fr_t (d : Nat) (o : Ob) (i : Nat) : (σ.fr d o).t i = frT d o (σ.t i) := rfl
theorem fr_b (d : Nat) (o : Ob) (i : Nat) : (σ.fr d o).b i = if i = d then none else (σ.b i).map (frO d o) := rfl
theorem unf_t (id : Nat) (row : List D) (i : Nat) : (σ.unfB id row).t i = scT (pUn id row) (σ.t i) := rfl
theorem unf_b (id : Nat) (row : List D) (i : Nat) : (σ.unfB id row).b i = if i = id then some (.box (unfL id 0 row)) else match unfO id row i with
  | some o => some o
  | none => (σ.b i).map (scO (pUn id row)) := rfl
theorem cal_t (d : Nat) (gs : List Gv) (r : D) (outs : List D) (i : Nat) : (σ.cal d gs r outs).t i = scT (qCal d gs outs) (σ.t i) := rfl
theorem cal_b (d : Nat) (gs : List Gv) (r : D) (outs : List D) (i : Nat) : (σ.cal d gs r outs).b i = match ansO d r i with
  | some o => some o
  | none => match outO outs gs i with
   | some o => if ansB d i = true then none else some o
   | none => if ansB d i = true \/ inG gs i = true then none else (σ.b i).map (scO (qCal d gs outs)) := rfl
theorem op_t (id e k : Nat) (rows : List (List D)) (i c nm : Nat) (d : D) (o : Ob) (j : Nat) : (σ.opE id e k rows i c nm d o).t j = scT (pOut [nm]) (σ.t j) := rfl
theorem op_b (id e k : Nat) (rows : List (List D)) (i c nm : Nat) (d : D) (o : Ob) (j : Nat) : (σ.opE id e k rows i c nm d o).b j = if j = nm then some o else if j = id then some (.hol e k rows i c (refC nm d)) else if pOut [nm, id] j = true then (σ.b j).map (scO (pOut [nm])) else none := rfl
theorem ev_t (i : Nat) : ev σ (.tmp i) = σ.t i := rfl
theorem ev_i (k : IntKind) (n : Int) : ev σ (.const (.int k n)) = .s (.int k n) := rfl
theorem ev_b (b : Bool) : ev σ (.const (.bool b)) = .s (.bool b) := rfl
theorem ev_s (s : ByteArray) : ev σ (.const (.string s)) = .s (.string s) := rfl
theorem ev_nil : ev σ (.const (.slice none 0 0)) = .nil := rfl
theorem ev_np : ev σ (.const (.pointer none)) = .np := rfl
theorem ev_f (f : FuncId) : ev σ (.func f) = .fn f [] := rfl
end
theorem bnil (s : ByteArray) : (s.toList == ByteArray.toList ⟨#[]⟩) = s.toList.isEmpty := by
 have : ByteArray.toList ⟨#[]⟩ = [] := by kernel_rfl
 rw [this]
 cases s.toList <;> rfl
theorem xg {P : Program} {f : FuncId} {ars : List D} {bs : List Nat} {K : D -> List D -> Prop} {Rs : D -> List D -> Prop} (hF : FCon P f ars Rs) (h : ∀ r outs, Rs r outs -> (bs = [] \/ (Pure r /\ ∀ o ∈ outs, Pure o)) /\ K r outs) : YR P f ars bs K := ⟨Rs, hF, h⟩
theorem CallE_mk {P : Program} {f : FuncId} {ars : List D} {bs : List Nat} {K : D -> List D -> Prop} {r0 : D} {o0 : List D} (hF : FCon P f ars (fun r o => r = r0 /\ o = o0)) (h : (bs = [] \/ (Pure r0 /\ ∀ o ∈ o0, Pure o)) /\ K r0 o0) : CallE P f ars bs K := ⟨r0, o0, hF, h.1, h.2⟩
def CallQ (P : Program) (f : FuncId) (ars : List D) (bs : List Nat) (c : Bool) (wr : D -> D) (σ : St) (dst : Option Tmp) (K : St -> Prop) : Prop := ∃ r0, (c = true -> FCon P f ars (fun r _ => r = r0) /\ (bs = [] \/ Pure r0)) /\ K (σ.put dst (wr (frA r0)))
def callQA (P : Program) (σ : St) (dst : Option Tmp) (c : Bool) (wr : D -> D) (K : St -> Prop) (ob : Prop) (f : FuncId) (caps : List D) : Option (Prop × List D × List Gv × List Nat) -> Prop
 | some (o2, ars, gs, bs) => dst.isSome = true /\ gs = [] /\ (c = true -> ob /\ o2) /\ CallQ P f (ars ++ caps) bs c wr σ dst K
 | none => c = false /\ K (σ.put dst (wr .un))
def callQM (P : Program) (σ : St) (dst : Option Tmp) (c : Bool) (wr : D -> D) (K : St -> Prop) : Option (Prop × FuncId × List D × List Operand) -> Prop
 | some (ob, f, caps, ops) => callQA P σ dst c wr K ob f caps (wb σ [] 0 ops)
 | none => c = false /\ K (σ.put dst (wr .un))
theorem Yd {P : Program} {σ : St} {o : Oper} {c : Bool} {wr : D -> D} {K : St -> Prop} (h : callQM P σ o.dst c wr K (aFn σ o.op)) : Yc P σ o c wr K := by
 unfold callQM at h
 split at h
 ·rename_i ob f caps ops hc
  unfold callQA at h
  split at h
  ·rename_i o2 ars gs bs ha
   obtain ⟨hd, rfl, ho, r0, hF, hK⟩ := h
   obtain ⟨d, hd⟩ := Option.isSome_iff_exists.1 hd
   exact ⟨frA r0, fun q => ⟨d, ob, f, caps, ops, o2, ars, bs, r0, hd, hc, (ho q).1, ha, (ho q).2, (hF q).1, (hF q).2, rfl⟩, hK⟩
  ·exact ⟨_, fun q => (by rw [h.1] at q; cases q), h.2⟩
 ·exact ⟨_, fun q => (by rw [h.1] at q; cases q), h.2⟩
theorem Ye {P : Program} {σ : St} {o : Oper} {wr : D -> D} {K : St -> Prop} (y : D) (h : K (σ.put o.dst (wr y))) : Yc P σ o false wr K := ⟨y, fun q => (by cases q), h⟩
theorem CallQ_no {P : Program} {f : FuncId} {ars : List D} {bs : List Nat} {wr : D -> D} {σ : St} {dst : Option Tmp} {K : St -> Prop} (h : K (σ.put dst (wr .un))) : CallQ P f ars bs false wr σ dst K := ⟨.un, fun q => (by cases q), h⟩
theorem xe {P : Program} {f : FuncId} {ars : List D} {bs : List Nat} {c : Bool} {wr : D -> D} {σ : St} {dst : Option Tmp} {K : St -> Prop} {r : D} (hF : FCon P f ars (fun r' _ => r' = r)) (h : (c = true -> bs = [] \/ Pure r) /\ K (σ.put dst (wr (frA r)))) : CallQ P f ars bs c wr σ dst K := ⟨r, fun hc => ⟨hF, h.1 hc⟩, h.2⟩
theorem xb {α : Type} (enc : α -> List D) (xs : List α) (k : Nat) (h : k < xs.length) : (xs.map enc).getD k [] = enc xs[k] := by
 rw [List.getD_eq_getElem?_getD, List.getElem?_map, List.getElem?_eq_getElem h]; rfl
theorem pure_s (v : Value) : Pure (.s v) = True := eq_true (.s v)
theorem pure_un : Pure .un = True := eq_true .un
attribute [go_sem] sp_skip sp_exit sp_ret sp_seq sp_block sp_cond sp_reg sp_drw sp_loop drwV k_tn k_te k_tr k_bn k_br k_be k_rn k_rr ao_nil ao_cons ent_t ent_b put_t put_b put_n sc_t sc_b setB_t setB_b fr_t fr_b unf_t unf_b cal_t cal_b op_t op_b ev_t ev_i ev_b ev_s ev_nil ev_np ev_f pure_s pure_un aqsN_nil aqsN_no aqsN_fl aqsN_fx aqsN_fx1 altK_ap lin_nil lin_cons aPivN aEff aFlQ aqst flF plF condV astep gvCall aopP aop1 aop2 aop3 aopF aopB YQ ACallE aFn aft callQM callQA lift2 aBin aBinI aBinS aUn uS XN ldC uQ Wa uR Wb Wc wQ aLen aConv aNil aPick Zy rowsE intE uG yU uw wM vM lay vL srcK nmA fdC fdL idC idO idsC nodB pOut isP foldB XH yA uA zO reop argC argL argD wb gvL bsL fdB idB zN deepO frz frzL frC frE frT frO scC scE scT scO unfL unfC unfD unfO pUn nmU refC entL entD entO ye uY ansO ansB ansN outO inG qCal shC shL shE shM shA lenE lenT frA retM aRvs aRv mkRes boxP boxC cellsY gvY gvN gvK treY treL outC outL outD XQ ownB opnS opnB lenA pPar grd gvT YY gdT xu oblT oblO kmin kmax eqCs List.getElem?_toArray List.getElem?_cons_zero List.getElem?_cons_succ List.drop_zero List.drop_succ_cons List.take_zero List.take_succ_cons List.take_nil List.drop_nil List.map_cons List.map_nil List.append_nil List.nil_append List.cons_append List.length_cons List.length_nil List.length_map List.length_append List.all_cons List.all_nil List.any_cons List.any_nil List.filter_cons List.filter_nil List.contains_cons List.contains_nil List.getD_cons_zero List.getD_cons_succ List.getD_nil List.set_cons_zero List.set_cons_succ Nat.zero_add Nat.add_zero Option.map_some Option.map_none Option.bind_some Option.bind_none Option.isNone_some Option.isNone_none Option.isSome_some Option.isSome_none Option.getD_some Option.getD_none if_true if_false Bool.false_eq_true true_and and_true and_self false_and and_false true_implies implies_true List.toList_toArray Option.some.injEq Int.toNat_natCast bnil beq_true beq_false imp_self beq_self_eq_true bne_self_eq_false Bool.cond_true_left Bool.cond_true_right Bool.cond_false_left Bool.cond_false_right Bool.true_and Bool.and_true Bool.false_and Bool.and_false Bool.true_or Bool.or_true Bool.false_or Bool.or_false Bool.not_true Bool.not_false forall_const id_eq or_true true_or or_false false_or not_true_eq_false not_false_eq_true decide_true decide_false
theorem Und.up_some {up : Nat -> Option Pos} {R : Nat -> Prop} {b : Nat} (h : Und up R b) : up b ≠ none := by
 cases h with
 | root h _ => rw [h]; simp
 | cell h _ => rw [h]; simp
theorem Rep.rn {g : Gh} {w : World} {m : Nat} {d : D} {v : Value} (h : Rep g.S g.up w none d v) : RN g w m d v := by
 cases d with
 | un => trivial
 | ag _ => cases h
 | _ => exact h.any _
open Classical in
theorem FCon.frz {P : Program} {f : FuncId} {args : List D} {Rs : D -> List D -> Prop} (h : FCon P f args Rs) : FCon P f args (fun r o => ∃ r0, Rs r0 o /\ r = frA r0) := by
 refine ⟨h.ent, fun w g vs h1 h2 h3 h4 => (h.run w g vs h1 h2 h3 h4).mono ?_⟩
 rintro e w' ⟨v, g', r, o, a1, a2, a3, a4, a5, a6, a7, a8, a9, a10⟩
 let π : Pos -> Pos := fun p => match p with
  | .cell b o => .cell b o
  | .ans _ _ => .root 0
  | _ => .root 1
 let up1 : Nat -> Option Pos := fun b => (g'.up b).map π
 let Rb : Nat -> Prop := fun i => i = 0
 let ga : Gh := ⟨g'.β, g'.κ, fun b => if Und up1 Rb b then none else g'.up b, fun b => g'.S b \/ Und up1 Rb b⟩
 have hund : ∀ b, Und up1 Rb b -> g'.up b ≠ none := fun b q e => q.up_some (by show (g'.up b).map π = none; rw [e]; rfl)
 let Ok : Pos -> Prop := fun p => match p with
  | .cell b _ => ¬ Und up1 Rb b
  | .ans _ _ => False
  | _ => True
 have hok : ∀ b p, g'.up b = some p -> Ok p -> ¬ Und up1 Rb b := by
  intro b p hp ho hu
  cases hu with
  | root q r =>
   have q : (g'.up b).map π = some (.root _) := q
   rw [hp, Option.map_some] at q
   injection q with q
   cases p with
   | cell b' o' => cases q
   | ans _ _ => exact ho
   | root _ => injection q with q; subst q; cases r
   | par _ _ => injection q with q; subst q; cases r
  | cell q r =>
   have q : (g'.up b).map π = some (.cell _ _) := q
   rw [hp, Option.map_some] at q
   injection q with q
   cases p with
   | cell b' o' => injection q with q1 q2; subst q1; exact ho r
   | ans _ _ => cases q
   | root _ => cases q
   | par _ _ => cases q
 have mv : Mv Ok (fun p => p) g' ga w' w' := ⟨fun b hb => ⟨.inl hb, rfl⟩, fun b p hb ho => ⟨by show (if Und up1 Rb b then none else g'.up b) = _; rw [if_neg (hok b p hb ho)]; exact hb, rfl⟩, fun b p o hb ho => ⟨hok b p hb ho, rfl⟩⟩
 have key : ∀ (m l : Nat) (c : D) (u : Value), Rep g'.S g'.up w' (some (.ans m l)) c u -> Rep ga.S ga.up w' none (Go.Proofs.YtmnokalddmlogaaGreat.frz c) u := by
  intro m l c u hr
  have h1 : Rep g'.S up1 w' ((some (.ans m l)).map π) c u := Rep.move (Ok := fun _ => True) (π := π) (g := g') (g' := ⟨g'.β, g'.κ, up1, g'.S⟩) ⟨fun b hb => ⟨hb, rfl⟩, fun b p hb _ => ⟨by show (g'.up b).map π = _; rw [hb]; rfl, rfl⟩, fun b p o hb _ => ⟨trivial, rfl⟩⟩ hr (fun _ _ => trivial)
  exact h1.froz (S' := ga.S) (up' := ga.up) (R := Rb) (fun b hs => .inl hs) (fun b hu => .inr hu) (fun q hq => by
   have hq : some (Pos.root 0) = some q := hq
   injection hq with hq; subst hq; rfl)
 have cellE : ∀ (m : Nat) (y : D) (u : Value), RN g' w' m y u -> RN ga w' m (match y with | .ag ys => .ag (frzL ys) | y => Go.Proofs.YtmnokalddmlogaaGreat.frz y) u := by
  intro m y u hN
  cases y with
  | un => trivial
  | ag xs =>
   obtain ⟨us, rfl, n1, n2⟩ := hN
   refine ⟨us, rfl, by rw [ZM]; exact n1, fun l c z hc hz => ?_⟩
   rw [zW, List.getElem?_map] at hc
   obtain ⟨c0, q1, rfl⟩ := Option.map_eq_some_iff.1 hc
   exact (key _ _ _ _ (n2 l c0 z q1 hz)).any _
  | tup _ => simp only [RN] at hN; cases hN
  | mb _ _ => simp only [RN] at hN; cases hN
  | bx _ _ => simp only [RN] at hN; cases hN
  | el _ _ _ _ => simp only [RN] at hN; cases hN
  | bs _ _ _ => simp only [RN] at hN; cases hN
  | _ => simp only [RN] at hN; exact (key _ _ _ _ hN).rn
 refine ⟨v, ga, frA r, o, a1, a2, a3, fun b hb => .inl (a4 b hb), fun b hb hs => ?_, fun b hs => ?_, fun b p hp => ?_, ⟨r, a8, rfl⟩, ?_, fun j d u hd hu => ?_⟩
 ·rcases hs with hs | hs
  ·exact a5 b hb hs
  ·cases hq : g'.up b with
   | none => exact absurd hq (hund b hs)
   | some p => exact .inr ((a7 b p hq).2.1 hb)
 ·rcases hs with hs | hs
  ·exact a6 b hs
  ·cases hq : g'.up b with
   | none => exact absurd hq (hund b hs)
   | some p => exact (a7 b p hq).1
 ·have hp : (if Und up1 Rb b then none else g'.up b) = some p := hp
  split at hp
  ·cases hp
  ·rename_i hn
   obtain ⟨c1, c2, c3⟩ := a7 b p hp
   exact ⟨c1, c2, fun q => q.elim c3 hn⟩
 ·cases r with
  | tup xs =>
   obtain ⟨us, rfl, n1, n2⟩ := a9
   refine ⟨us, rfl, by simp [n1], fun m y u hy hu => ?_⟩
   rw [List.getElem?_map] at hy
   obtain ⟨y0, q1, rfl⟩ := Option.map_eq_some_iff.1 hy
   exact cellE m y0 u (n2 m y0 u q1 hu)
  | un => trivial
  | ag xs => exact cellE 0 (.ag xs) v a9
  | mb _ _ => simp only [RNs, RN] at a9; cases a9
  | bx _ _ => simp only [RNs, RN] at a9; cases a9
  | el _ _ _ _ => simp only [RNs, RN] at a9; cases a9
  | bs _ _ _ => simp only [RNs, RN] at a9; cases a9
  | _ => simp only [RNs] at a9; exact cellE 0 _ v a9
 ·have hR := a10 j d u hd hu
  cases d with
  | un => trivial
  | ag xs =>
   obtain ⟨us, rfl, n1, n2⟩ := hR
   refine ⟨us, rfl, n1, fun l x z hx hz => (n2 l x z hx hz).imp id fun q => ?_⟩
   exact Rep.move mv q (fun p hp => by injection hp with hp; subst hp; trivial)
  | _ => exact Rep.move mv (show Rep g'.S g'.up w' (some (.par j 0)) _ u from hR) (fun p hp => by injection hp with hp; subst hp; trivial)
theorem FCon.ice {P : Program} {f : FuncId} {args : List D} {y : D} (h : FCon P f args (fun r _ => frA r = y)) : FCon P f args (fun r _ => r = y) := h.frz.mono fun _ _ ⟨_, e, q⟩ => q.trans e
theorem FCon.noout {P : Program} {f : FuncId} {args : List D} {R : D -> Prop} (h : FCon P f args (fun r _ => R r)) : FCon P f args (fun r o => R r /\ o = []) := by
 refine ⟨h.ent, fun w g vs h1 h2 h3 h4 => (h.run w g vs h1 h2 h3 h4).mono ?_⟩
 rintro e w' ⟨v, g', r, o, a1, a2, a3, a4, a5, a6, a7, a8, a9, a10⟩
 exact ⟨v, g', r, [], a1, a2, a3, a4, a5, a6, a7, ⟨a8, rfl⟩, a9, fun j d u q => by simp at q⟩
theorem xD {α : Type} {f : α -> List D} (h : ∀ x, ∀ d ∈ f x, Pure d) (e k : Nat) (xs : List α) : Pure (.osl e k (xs.map f)) := .osl fun i j row d hi hj => by
 rw [List.getElem?_map] at hi
 obtain ⟨y, -, rfl⟩ := Option.map_eq_some_iff.1 hi
 exact h y d (List.mem_of_getElem? hj)
theorem Qu (xs : List D) : Pure (.ag xs) = ∀ d ∈ xs, Pure d := propext ⟨fun h d hd => by
 obtain ⟨j, hj⟩ := List.mem_iff_getElem?.1 hd
 cases h with
 | ag h => exact h j d hj, fun h => .ag fun j d hj => h d (List.mem_of_getElem? hj)⟩
attribute [go_sem] Qu List.forall_mem_cons List.not_mem_nil false_imp_iff
theorem FCon.wk {P : Program} {f : FuncId} {args : List D} {Rs Rs' : D -> List D -> Prop} (h : FCon P f args Rs) (hr : ∀ r o, Rs r o -> ∃ r', Rs' r' o /\ ∀ (g : Gh) (w : World) (v : Value), RNs g w r v -> RNs g w r' v) : FCon P f args Rs' := by
 refine ⟨h.ent, fun w g vs h1 h2 h3 h4 => (h.run w g vs h1 h2 h3 h4).mono ?_⟩
 rintro e w' ⟨v, g', r, o, a1, a2, a3, a4, a5, a6, a7, a8, a9, a10⟩
 obtain ⟨r', b1, b2⟩ := hr r o a8
 exact ⟨v, g', r', o, a1, a2, a3, a4, a5, a6, a7, b1, b2 _ _ _ a9, a10⟩
theorem Rep.nil_osl {S : Nat -> Prop} {up : Nat -> Option Pos} {w : World} {p : Option Pos} {v : Value} (e k : Nat) (h : Rep S up w p .nil v) : Rep S up w p (.osl e k []) v := by cases h; exact .osl0
theorem Rep.nil_sl {S : Nat -> Prop} {up : Nat -> Option Pos} {w : World} {p : Option Pos} {v : Value} (k : Nat) (h : Rep S up w p .nil v) : Rep S up w p (.sl k []) v := by cases h; exact .sl0 (Nat.zero_le _)
theorem QA (q r : Nat -> Bool) (y : D) : scC q (scC r y) = scC r (scC q y) := by
 cases y with
 | bx id o => by_cases h1 : q id = true <;> by_cases h2 : r id = true <;> simp [scC, h1, h2]
 | el id k i o => by_cases h1 : q id = true <;> by_cases h2 : r id = true <;> simp [scC, h1, h2]
 | bs id k n => by_cases h1 : q id = true <;> by_cases h2 : r id = true <;> simp [scC, h1, h2]
 | _ => rfl
theorem Ve (q r : Nat -> Bool) (l : List D) : (l.map (scC r)).map (scC q) = (l.map (scC q)).map (scC r) := by
 rw [List.map_map, List.map_map]; exact List.map_congr_left fun y _ => QA q r y
theorem Z5 (q r : Nat -> Bool) (y : D) : scE q (scE r y) = scE r (scE q y) := by
 cases y with
 | ag xs => simp only [scE, Ve q r]
 | bx id o => by_cases h1 : q id = true <;> by_cases h2 : r id = true <;> simp [scE, scC, h1, h2]
 | el id k i o => by_cases h1 : q id = true <;> by_cases h2 : r id = true <;> simp [scE, scC, h1, h2]
 | bs id k n => by_cases h1 : q id = true <;> by_cases h2 : r id = true <;> simp [scE, scC, h1, h2]
 | _ => rfl
theorem X4 (q r : Nat -> Bool) (y : D) : scT q (scT r y) = scT r (scT q y) := by
 cases y with
 | tup xs => simp only [scT, List.map_map]; congr 1; exact List.map_congr_left fun y _ => Z5 q r y
 | mb c x => simp only [scT, Z5 q r]
 | ag xs => exact Z5 q r (.ag xs)
 | bx id o => by_cases h1 : q id = true <;> by_cases h2 : r id = true <;> simp [scT, scE, scC, h1, h2]
 | el id k i o => by_cases h1 : q id = true <;> by_cases h2 : r id = true <;> simp [scT, scE, scC, h1, h2]
 | bs id k n => by_cases h1 : q id = true <;> by_cases h2 : r id = true <;> simp [scT, scE, scC, h1, h2]
 | _ => rfl
theorem X3 (q r : Nat -> Bool) (o : Ob) : scO q (scO r o) = scO r (scO q o) := by
 cases o <;> simp only [scO, Ve q r, QA q r]
theorem mk2 {ρ : St} {d e : Nat} {o p : Ob} {x y : D} (h : d ≠ e) (ho : scO (fun i => i != e) o = o) (hp : scO (fun i => i != d) p = p) (hx : scT (fun i => i != e) x = x) (hy : scT (fun i => i != d) y = y) :
  ((((((ρ.sc (fun i => i != e) (fun i => i != e)).setB e p).put (some e) y).sc (fun i => i != d) (fun i => i != d)).setB d o).put (some d) x) = ((((((ρ.sc (fun i => i != d) (fun i => i != d)).setB d o).put (some d) x).sc (fun i => i != e) (fun i => i != e)).setB e p).put (some e) y) := by
 simp only [St.put, St.setB, St.sc]
 congr 1
 ·funext i
  by_cases h1 : i = d
  ·subst h1; rw [if_pos rfl, if_neg h, if_pos rfl, hx]
  ·rw [if_neg h1]
   by_cases h2 : i = e
   ·subst h2; rw [if_pos rfl, if_pos rfl, hy]
   ·rw [if_neg h2, if_neg h2, if_neg h1]; exact X4 _ _ _
 ·funext i
  by_cases h1 : i = d
  ·subst h1
   have h3 : (i != e) = true := by simpa using h
   rw [if_pos rfl, if_neg h, if_pos h3, if_pos rfl, Option.map_some, ho]
  ·rw [if_neg h1]
   by_cases h2 : i = e
   ·subst h2
    have h3 : (i != d) = true := by simpa using h1
    rw [if_pos h3, if_pos rfl, if_pos rfl, Option.map_some, hp]
   ·have h3 : (i != d) = true := by simpa using h1
    have h4 : (i != e) = true := by simpa using h2
    rw [if_pos h3, if_neg h2, if_neg h2, if_pos h4, if_pos h4, if_neg h1, if_pos h3, Option.map_map, Option.map_map]
    cases ρ.b i with
    | none => rfl
    | some q => exact congrArg some (X3 _ _ q)
theorem q_Meet {σ τ : St} (h : Meet σ τ) : Meet σ τ := h
theorem zM {σ τ : St} (h : σ = τ := by first | rfl | (rw [mk2 (by decide) rfl rfl rfl rfl]; done) | fail) : Meet σ τ := h
structure WFx (p : Prop) : Prop where
 out : p
theorem q_aqsN {M : Md} {ops : Array Oper} {fl : Nat -> Nat -> Bool} {K : St -> Prop} {t : Tr} {acc : List (Nat × Oper)} {σ : St} (h : aqsN M ops fl K t acc σ) : aqsN M ops fl K t acc σ := h
theorem q_aops {M : Md} {ops : Array Oper} {K : St -> Prop} {l : List Oper} {σ : St} (h : aops M ops K l σ) : aops M ops K l σ := h
theorem q_aft {σ : St} {dst : Option Tmp} {gs : List Gv} {K : St -> Prop} {r : D} {outs : List D} (h : aft σ dst gs K r outs) : aft σ dst gs K r outs := h
theorem xc {P : Program} {f : FuncId} {ars : List D} {bs : List Nat} {K : D -> List D -> Prop} (h : YR P f ars bs K) : YR P f ars bs K := h
theorem q_CallE {P : Program} {f : FuncId} {ars : List D} {bs : List Nat} {K : D -> List D -> Prop} (h : CallE P f ars bs K) : CallE P f ars bs K := h
theorem xf {P : Program} {f : FuncId} {ars : List D} {bs : List Nat} {c : Bool} {wr : D -> D} {σ : St} {dst : Option Tmp} {K : St -> Prop} (h : CallQ P f ars bs c wr σ dst K) : CallQ P f ars bs c wr σ dst K := h
theorem ai {a b : Prop} (x : a) (y : b) : a /\ b := ⟨x, y⟩
theorem f0 : WFx (∀ n : Nat, n + 0 = n) := ⟨fun _ => rfl⟩
theorem zS {G R : Prop} (r : R) (h : R -> G := by
 intro r
 with_reducible first | apply q_aqsN | apply q_aops | apply Ye (.s (.bool false)) | apply xj | apply Yd | apply q_aft
 simp only [go_sem, simprocAttr, hWf.out]
 fail_if_success (with_reducible refine (?_ : False))
 exact r) : G := h r
theorem zE {G : Prop} (h : G := by
 with_reducible first | apply q_aqsN | apply q_aops | apply Ye (.s (.bool false)) | apply xj | apply Yd | apply q_aft
 simp only [go_sem, simprocAttr, hWf.out]
 done) : G := h
theorem zY {G R : Prop} (r : R) (h : R -> G := by
 intro r
 with_reducible first | apply q_aqsN | apply q_aops | apply Ye (.s (.bool false)) | apply Yd | apply q_aft
 simp only [go_sem, simprocAttr, hWf.out]
 fail_if_success (with_reducible refine (?_ : False))
 exact r) : G := h r
theorem zT {G R : Prop} (r : R) (h : R -> G := by
 intro r
 first
 | ((with_reducible apply CallQ_no); exact r)
 | (simp only [go_sem, simprocAttr, hWf.out]; exact r)
 | fail) : G := h r
theorem zB0 {c : Prop} {M : Md} {N : Nat} {pl : List (Nat × Plan)} {cd : Code} {K : Exit -> St -> Prop} {σ : St} (h : c -> False := by
 intro hb
 (try simp only [decide_eq_true_eq, decide_eq_false_iff_not, Bool.and_eq_true, Bool.or_eq_true, Bool.and_eq_false_iff, Bool.or_eq_false_iff, Bool.not_eq_true', Bool.not_eq_false', beq_iff_eq, beq_eq_false_iff_ne, bne_iff_ne, bne_eq_false_iff_eq, gt_iff_lt, ge_iff_le, Int.not_lt, Int.not_le] at hb) <;> omega) : c -> AC M N pl cd K σ := fun q => (h q).elim
theorem zB {c d : Prop} {M : Md} {N : Nat} {pl : List (Nat × Plan)} {cd : Code} {K : Exit -> St -> Prop} {σ : St} (k : d -> AC M N pl cd K σ) (h : c -> d := by
 intro hb
 (try simp only [decide_eq_true_eq, decide_eq_false_iff_not, Bool.and_eq_true, Bool.or_eq_true, Bool.and_eq_false_iff, Bool.or_eq_false_iff, Bool.not_eq_true', Bool.not_eq_false', beq_iff_eq, beq_eq_false_iff_ne, bne_iff_ne, bne_eq_false_iff_eq, gt_iff_lt, ge_iff_le, Int.not_lt, Int.not_le] at hb)
 exact hb) : c -> AC M N pl cd K σ := fun q => k (h q)
theorem zC {G : Prop} (h : G := by
 first
 | ((with_reducible intro hff); exact False.elim hff)
 | omega
 | (simp only [go_sem, simprocAttr, hWf.out]; done)
 | (intro hg; simp only [Bool.and_eq_true, Bool.or_eq_true, Bool.not_eq_true', Bool.and_eq_false_iff, Bool.or_eq_false_iff, Bool.not_eq_false', decide_eq_true_eq, decide_eq_false_iff_not, Bool.not_not, gt_iff_lt, ge_iff_le, Int.not_lt, Int.not_le] at hg ⊢; first | omega | (simp_all; done) | fail)
 | fail) : G := h
theorem zG {P : Program} {f : FuncId} {ars : List D} {bs : List Nat} {K : D -> List D -> Prop} {X : D} (hF : FCon P f ars (fun r _ => r = X)) (h : (bs = [] \/ (Pure X /\ ∀ o ∈ ([] : List D), Pure o)) /\ K X []) : YR P f ars bs K :=
 xg (FCon.noout (R := fun r => r = X) hF) (by rintro _ _ ⟨rfl, rfl⟩; exact h)
theorem zK {F G R : Prop} (c : F) (r : R) (h : F -> R -> G := by
 intro c r
 first
 | ((with_reducible apply xc); exact zG c r)
 | ((with_reducible apply xf); exact xe c r)
 | fail) : G := h c r
theorem zG2 {P : Program} {f : FuncId} {ars : List D} {bs : List Nat} {K : D -> List D -> Prop} {X : D} {Y : List D} (hF : FCon P f ars (fun r o => r = X /\ o = Y)) (h : (bs = [] \/ (Pure X /\ ∀ o ∈ Y, Pure o)) /\ K X Y) : YR P f ars bs K :=
 xg hF (by rintro _ _ ⟨rfl, rfl⟩; exact h)
theorem zH {F G R : Prop} (c : F) (r : R) (h : F -> R -> G := by
 intro c r
 first
 | ((with_reducible apply xc); exact zG2 c r)
 | ((with_reducible apply xf); exact xe c r)
 | fail) : G := h c r
theorem zF0 {G : Prop} (h : G := by first | exact zE | with_reducible exact zB0 | ((with_reducible apply q_Meet); exact zM) | fail) : G := h
theorem zF1 {G : Prop} (h : G := by first | with_reducible exact zB0 | ((with_reducible apply q_Meet); exact zM) | fail) : G := h
theorem zI {G p q : Prop} (a : p) (b : q) (h : p -> q -> G := by intro a b; with_reducible exact And.intro a b) : G := h a b
theorem zD {G R d : Prop} (k : d -> R) (h : (d -> R) -> G := by intro k; with_reducible exact zB k) : G := h k
theorem zX {F G R : Prop} (c : F) (r : R) (h : F -> R -> G := by intro c r; ((with_reducible apply q_CallE); exact CallE_mk c r)) : G := h c r
theorem zU {F G R : Prop} (c : F) (r : R) (h : F -> R -> G := by intro c r; ((with_reducible apply xf); exact xe c r)) : G := h c r
theorem FI (M : Md) {f : FuncId} {fn : Func} {N : Nat} (hf : M.P.funcs[f]? = some fn) (hN : fn.ntmps = N) (pl : List (Nat × Plan)) {c : Code} {rs : List ResultVar} {ars : List D} {Rs : D -> List D -> Prop} (hb : fn.body = some c) (hrs : fn.results = rs.toArray) (h : AC M N pl c (retK M.P rs ars Rs) (opnS 0 ars (St.ent ars)))
  (hname : (fn.name == "runtime.NumGoroutine") = false := by kernel_rfl) (hck : chkC pl N c = true := by decide +kernel)
  (hlen : ars.length <= N := by simp) (hn : ars.length <= 900 := by simp) (hA : lenA ars = true := by rfl) (ho : opnB ars = true := by first | rfl | simp only [go_sem]) : FCon M.P f ars Rs := FCon.intro M fn hf hname hb N hN hrs pl hck hlen hn hA ho h
abbrev FT := FCon Tryz.prog
theorem w1 {p : Prop} (h : p) : WFx p := ⟨h⟩
theorem w2 {p0 p1 : Prop} (h0 : p0) (h1 : p1) : WFx (p0 ∧ p1) := ⟨⟨h0, h1⟩⟩
theorem w3 {p0 p1 p2 : Prop} (h0 : p0) (h1 : p1) (h2 : p2) : WFx (p0 ∧ p1 ∧ p2) := ⟨⟨h0, h1, h2⟩⟩
theorem w4 {p0 p1 p2 p3 : Prop} (h0 : p0) (h1 : p1) (h2 : p2) (h3 : p3) : WFx (p0 ∧ p1 ∧ p2 ∧ p3) := ⟨⟨h0, h1, h2, h3⟩⟩
theorem w5 {p0 p1 p2 p3 p4 : Prop} (h0 : p0) (h1 : p1) (h2 : p2) (h3 : p3) (h4 : p4) : WFx (p0 ∧ p1 ∧ p2 ∧ p3 ∧ p4) := ⟨⟨h0, h1, h2, h3, h4⟩⟩
theorem w6 {p0 p1 p2 p3 p4 p5 : Prop} (h0 : p0) (h1 : p1) (h2 : p2) (h3 : p3) (h4 : p4) (h5 : p5) : WFx (p0 ∧ p1 ∧ p2 ∧ p3 ∧ p4 ∧ p5) := ⟨⟨h0, h1, h2, h3, h4, h5⟩⟩
theorem w7 {p0 p1 p2 p3 p4 p5 p6 : Prop} (h0 : p0) (h1 : p1) (h2 : p2) (h3 : p3) (h4 : p4) (h5 : p5) (h6 : p6) : WFx (p0 ∧ p1 ∧ p2 ∧ p3 ∧ p4 ∧ p5 ∧ p6) := ⟨⟨h0, h1, h2, h3, h4, h5, h6⟩⟩
theorem w8 {p0 p1 p2 p3 p4 p5 p6 p7 : Prop} (h0 : p0) (h1 : p1) (h2 : p2) (h3 : p3) (h4 : p4) (h5 : p5) (h6 : p6) (h7 : p7) : WFx (p0 ∧ p1 ∧ p2 ∧ p3 ∧ p4 ∧ p5 ∧ p6 ∧ p7) := ⟨⟨h0, h1, h2, h3, h4, h5, h6, h7⟩⟩
theorem w9 {p0 p1 p2 p3 p4 p5 p6 p7 p8 : Prop} (h0 : p0) (h1 : p1) (h2 : p2) (h3 : p3) (h4 : p4) (h5 : p5) (h6 : p6) (h7 : p7) (h8 : p8) : WFx (p0 ∧ p1 ∧ p2 ∧ p3 ∧ p4 ∧ p5 ∧ p6 ∧ p7 ∧ p8) := ⟨⟨h0, h1, h2, h3, h4, h5, h6, h7, h8⟩⟩
theorem w10 {p0 p1 p2 p3 p4 p5 p6 p7 p8 p9 : Prop} (h0 : p0) (h1 : p1) (h2 : p2) (h3 : p3) (h4 : p4) (h5 : p5) (h6 : p6) (h7 : p7) (h8 : p8) (h9 : p9) : WFx (p0 ∧ p1 ∧ p2 ∧ p3 ∧ p4 ∧ p5 ∧ p6 ∧ p7 ∧ p8 ∧ p9) := ⟨⟨h0, h1, h2, h3, h4, h5, h6, h7, h8, h9⟩⟩
end
section
theorem ck_3 : ck Tryz.prog 3 = some (false, 1, [.s (.int .i64 0)]) := by kernel_rfl
theorem ck_4 : ck Tryz.prog 4 = some (false, 1, [.s (.bool false)]) := by kernel_rfl
theorem un_4 : Tryz.prog.underlying 4 = some (.bool) := by kernel_rfl
theorem ck_9 : ck Tryz.prog 9 = some (false, 1, [.s (.string ⟨#[]⟩)]) := by kernel_rfl
theorem un_9 : Tryz.prog.underlying 9 = some (.string) := by kernel_rfl
theorem tk_22 : tk Tryz.prog 22 = .sl 129 3 48 [.s (.string ⟨#[]⟩), .s (.int .i64 0), .nil] := by kernel_rfl
theorem ck_22 : ck Tryz.prog 22 = some (false, 1, [.nil]) := by kernel_rfl
theorem un_22 : Tryz.prog.underlying 22 = some (.slice 129) := by kernel_rfl
theorem tk_23 : tk Tryz.prog 23 = .sl 132 6 88 [.s (.int .i64 0), .s (.int .i64 0), .s (.int .i64 0), .s (.string ⟨#[]⟩), .nil, .nil] := by kernel_rfl
theorem ck_23 : ck Tryz.prog 23 = some (false, 1, [.nil]) := by kernel_rfl
theorem un_23 : Tryz.prog.underlying 23 = some (.slice 132) := by kernel_rfl
theorem tk_25 : tk Tryz.prog 25 = .st 2 [(0, 1, false), (1, 1, false)] [.nil, .nil] := by kernel_rfl
theorem ck_25 : ck Tryz.prog 25 = some (true, 2, [.nil, .nil]) := by kernel_rfl
theorem tk_26 : tk Tryz.prog 26 = .sl 70 1 24 [.nil] := by kernel_rfl
theorem ck_26 : ck Tryz.prog 26 = some (false, 1, [.nil]) := by kernel_rfl
theorem un_26 : Tryz.prog.underlying 26 = some (.slice 70) := by kernel_rfl
theorem tk_29 : tk Tryz.prog 29 = .sl 143 3 32 [.s (.int .i64 0), .s (.string ⟨#[]⟩), .s (.int .i64 0)] := by kernel_rfl
theorem ck_29 : ck Tryz.prog 29 = some (false, 1, [.nil]) := by kernel_rfl
theorem un_29 : Tryz.prog.underlying 29 = some (.slice 143) := by kernel_rfl
theorem tk_31 : tk Tryz.prog 31 = .st 1 [(0, 1, false)] [.nil] := by kernel_rfl
theorem ck_31 : ck Tryz.prog 31 = some (true, 1, [.nil]) := by kernel_rfl
theorem tk_34 : tk Tryz.prog 34 = .sl 137 3 48 [.s (.string ⟨#[]⟩), .s (.int .i64 0), .nil] := by kernel_rfl
theorem ck_34 : ck Tryz.prog 34 = some (false, 1, [.nil]) := by kernel_rfl
theorem un_34 : Tryz.prog.underlying 34 = some (.slice 137) := by kernel_rfl
theorem tk_35 : tk Tryz.prog 35 = .sl 163 6 88 [.s (.int .i64 0), .s (.int .i64 0), .s (.int .i64 0), .s (.string ⟨#[]⟩), .nil, .nil] := by kernel_rfl
theorem ck_35 : ck Tryz.prog 35 = some (false, 1, [.nil]) := by kernel_rfl
theorem un_35 : Tryz.prog.underlying 35 = some (.slice 163) := by kernel_rfl
theorem tk_37 : tk Tryz.prog 37 = .st 2 [(0, 1, false), (1, 1, false)] [.nil, .nil] := by kernel_rfl
theorem ck_37 : ck Tryz.prog 37 = some (true, 2, [.nil, .nil]) := by kernel_rfl
theorem tk_39 : tk Tryz.prog 39 = .sl 62 1 24 [.nil] := by kernel_rfl
theorem ck_39 : ck Tryz.prog 39 = some (false, 1, [.nil]) := by kernel_rfl
theorem un_39 : Tryz.prog.underlying 39 = some (.slice 62) := by kernel_rfl
theorem tk_50 : tk Tryz.prog 50 = .sl 3 1 8 [.s (.int .i64 0)] := by kernel_rfl
theorem ck_50 : ck Tryz.prog 50 = some (false, 1, [.nil]) := by kernel_rfl
theorem un_50 : Tryz.prog.underlying 50 = some (.slice 3) := by kernel_rfl
theorem tk_59 : tk Tryz.prog 59 = .st 4 [(0, 1, false), (1, 1, false), (2, 1, false), (3, 1, false)] [.s (.int .i64 0), .s (.int .i64 0), .s (.string ⟨#[]⟩), .nil] := by kernel_rfl
theorem ck_59 : ck Tryz.prog 59 = some (true, 4, [.s (.int .i64 0), .s (.int .i64 0), .s (.string ⟨#[]⟩), .nil]) := by kernel_rfl
theorem tk_60 : tk Tryz.prog 60 = .sl 59 4 56 [.s (.int .i64 0), .s (.int .i64 0), .s (.string ⟨#[]⟩), .nil] := by kernel_rfl
theorem ck_60 : ck Tryz.prog 60 = some (false, 1, [.nil]) := by kernel_rfl
theorem un_60 : Tryz.prog.underlying 60 = some (.slice 59) := by kernel_rfl
theorem tk_62 : tk Tryz.prog 62 = .st 1 [(0, 1, false)] [.nil] := by kernel_rfl
theorem ck_62 : ck Tryz.prog 62 = some (true, 1, [.nil]) := by kernel_rfl
theorem tk_68 : tk Tryz.prog 68 = .sl 213 4 56 [.s (.int .i64 0), .s (.int .i64 0), .s (.string ⟨#[]⟩), .nil] := by kernel_rfl
theorem ck_68 : ck Tryz.prog 68 = some (false, 1, [.nil]) := by kernel_rfl
theorem un_68 : Tryz.prog.underlying 68 = some (.slice 213) := by kernel_rfl
theorem tk_70 : tk Tryz.prog 70 = .st 1 [(0, 1, false)] [.nil] := by kernel_rfl
theorem ck_70 : ck Tryz.prog 70 = some (true, 1, [.nil]) := by kernel_rfl
theorem Zf : tk Tryz.prog 75 = .sl 160 2 32 [.s (.int .i64 0), .nil] := by kernel_rfl
theorem ck_75 : ck Tryz.prog 75 = some (false, 1, [.nil]) := by kernel_rfl
theorem un_75 : Tryz.prog.underlying 75 = some (.slice 160) := by kernel_rfl
theorem tk_77 : tk Tryz.prog 77 = .st 6 [(0, 2, true), (2, 1, false), (3, 1, false), (4, 1, false), (5, 1, false)] [.nil, .nil, .nil, .s (.int .i64 0), .s (.int .i64 0), .s (.int .i64 0)] := by kernel_rfl
theorem tk_78 : tk Tryz.prog 78 = .sl 149 3 64 [.s (.string ⟨#[]⟩), .nil, .nil] := by kernel_rfl
theorem tk_90 : tk Tryz.prog 90 = .st 1 [(0, 1, false)] [.nil] := by kernel_rfl
theorem tk_92 : tk Tryz.prog 92 = .st 6 [(0, 2, true), (2, 1, true), (3, 1, false), (4, 1, false), (5, 1, false)] [.nil, .nil, .nil, .s (.int .i64 0), .s (.int .i64 0), .s (.int .i64 0)] := by kernel_rfl
theorem ck_96 : ck Tryz.prog 96 = some (false, 1, [.np]) := by kernel_rfl
theorem tk_121 : tk Tryz.prog 121 = .sl 96 1 8 [.np] := by kernel_rfl
theorem ck_121 : ck Tryz.prog 121 = some (false, 1, [.nil]) := by kernel_rfl
theorem un_121 : Tryz.prog.underlying 121 = some (.slice 96) := by kernel_rfl
theorem tk_127 : tk Tryz.prog 127 = .sl 270 3 48 [.s (.string ⟨#[]⟩), .s (.bool false), .nil] := by kernel_rfl
theorem ck_127 : ck Tryz.prog 127 = some (false, 1, [.nil]) := by kernel_rfl
theorem un_127 : Tryz.prog.underlying 127 = some (.slice 270) := by kernel_rfl
theorem tk_129 : tk Tryz.prog 129 = .st 3 [(0, 1, false), (1, 1, false), (2, 1, false)] [.s (.string ⟨#[]⟩), .s (.int .i64 0), .nil] := by kernel_rfl
theorem ck_129 : ck Tryz.prog 129 = some (true, 3, [.s (.string ⟨#[]⟩), .s (.int .i64 0), .nil]) := by kernel_rfl
theorem tk_132 : tk Tryz.prog 132 = .st 6 [(0, 1, false), (1, 1, false), (2, 1, false), (3, 1, false), (4, 1, false), (5, 1, false)] [.s (.int .i64 0), .s (.int .i64 0), .s (.int .i64 0), .s (.string ⟨#[]⟩), .nil, .nil] := by kernel_rfl
theorem ck_132 : ck Tryz.prog 132 = some (true, 6, [.s (.int .i64 0), .s (.int .i64 0), .s (.int .i64 0), .s (.string ⟨#[]⟩), .nil, .nil]) := by kernel_rfl
theorem tk_135 : tk Tryz.prog 135 = .sl 141 3 48 [.s (.string ⟨#[]⟩), .s (.bool false), .nil] := by kernel_rfl
theorem ck_135 : ck Tryz.prog 135 = some (false, 1, [.nil]) := by kernel_rfl
theorem un_135 : Tryz.prog.underlying 135 = some (.slice 141) := by kernel_rfl
theorem tk_137 : tk Tryz.prog 137 = .st 3 [(0, 1, false), (1, 1, false), (2, 1, false)] [.s (.string ⟨#[]⟩), .s (.int .i64 0), .nil] := by kernel_rfl
theorem ck_137 : ck Tryz.prog 137 = some (true, 3, [.s (.string ⟨#[]⟩), .s (.int .i64 0), .nil]) := by kernel_rfl
theorem tk_141 : tk Tryz.prog 141 = .st 3 [(0, 1, false), (1, 1, false), (2, 1, true)] [.s (.string ⟨#[]⟩), .s (.bool false), .nil] := by kernel_rfl
theorem ck_141 : ck Tryz.prog 141 = some (true, 3, [.s (.string ⟨#[]⟩), .s (.bool false), .nil]) := by kernel_rfl
theorem tk_143 : tk Tryz.prog 143 = .st 3 [(0, 1, false), (1, 1, false), (2, 1, false)] [.s (.int .i64 0), .s (.string ⟨#[]⟩), .s (.int .i64 0)] := by kernel_rfl
theorem ck_143 : ck Tryz.prog 143 = some (true, 3, [.s (.int .i64 0), .s (.string ⟨#[]⟩), .s (.int .i64 0)]) := by kernel_rfl
theorem tk_149 : tk Tryz.prog 149 = .st 3 [(0, 1, false), (1, 1, true), (2, 1, false)] [.s (.string ⟨#[]⟩), .nil, .nil] := by kernel_rfl
theorem tk_152 : tk Tryz.prog 152 = .sl 31 1 24 [.nil] := by kernel_rfl
theorem un_152 : Tryz.prog.underlying 152 = some (.slice 31) := by kernel_rfl
theorem tk_160 : tk Tryz.prog 160 = .st 2 [(0, 1, false), (1, 1, true)] [.s (.int .i64 0), .nil] := by kernel_rfl
theorem ck_160 : ck Tryz.prog 160 = some (true, 2, [.s (.int .i64 0), .nil]) := by kernel_rfl
theorem tk_163 : tk Tryz.prog 163 = .st 6 [(0, 1, false), (1, 1, false), (2, 1, false), (3, 1, false), (4, 1, false), (5, 1, false)] [.s (.int .i64 0), .s (.int .i64 0), .s (.int .i64 0), .s (.string ⟨#[]⟩), .nil, .nil] := by kernel_rfl
theorem ck_163 : ck Tryz.prog 163 = some (true, 6, [.s (.int .i64 0), .s (.int .i64 0), .s (.int .i64 0), .s (.string ⟨#[]⟩), .nil, .nil]) := by kernel_rfl
theorem tk_166 : tk Tryz.prog 166 = .sl 9 1 16 [.s (.string ⟨#[]⟩)] := by kernel_rfl
theorem un_166 : Tryz.prog.underlying 166 = some (.slice 9) := by kernel_rfl
theorem tk_178 : tk Tryz.prog 178 = .st 4 [(0, 1, false), (1, 1, false), (2, 1, false), (3, 1, false)] [.s (.int .i64 0), .s (.int .i64 0), .s (.string ⟨#[]⟩), .nil] := by kernel_rfl
theorem tk_182 : tk Tryz.prog 182 = .st 4 [(0, 1, false), (1, 1, false), (2, 1, false), (3, 1, false)] [.s (.string ⟨#[]⟩), .nil, .nil, .np] := by kernel_rfl
theorem tk_213 : tk Tryz.prog 213 = .st 4 [(0, 1, false), (1, 1, false), (2, 1, false), (3, 1, false)] [.s (.int .i64 0), .s (.int .i64 0), .s (.string ⟨#[]⟩), .nil] := by kernel_rfl
theorem ck_213 : ck Tryz.prog 213 = some (true, 4, [.s (.int .i64 0), .s (.int .i64 0), .s (.string ⟨#[]⟩), .nil]) := by kernel_rfl
theorem tk_231 : tk Tryz.prog 231 = .sl 29 1 24 [.nil] := by kernel_rfl
theorem un_231 : Tryz.prog.underlying 231 = some (.slice 29) := by kernel_rfl
theorem tk_266 : tk Tryz.prog 266 = .sl 328 3 32 [.s (.int .i64 0), .s (.string ⟨#[]⟩), .s (.int .i64 0)] := by kernel_rfl
theorem ck_266 : ck Tryz.prog 266 = some (false, 1, [.nil]) := by kernel_rfl
theorem un_266 : Tryz.prog.underlying 266 = some (.slice 328) := by kernel_rfl
theorem tk_268 : tk Tryz.prog 268 = .st 1 [(0, 1, false)] [.nil] := by kernel_rfl
theorem ck_268 : ck Tryz.prog 268 = some (true, 1, [.nil]) := by kernel_rfl
theorem tk_270 : tk Tryz.prog 270 = .st 3 [(0, 1, false), (1, 1, false), (2, 1, true)] [.s (.string ⟨#[]⟩), .s (.bool false), .nil] := by kernel_rfl
theorem ck_270 : ck Tryz.prog 270 = some (true, 3, [.s (.string ⟨#[]⟩), .s (.bool false), .nil]) := by kernel_rfl
theorem tk_328 : tk Tryz.prog 328 = .st 3 [(0, 1, false), (1, 1, false), (2, 1, false)] [.s (.int .i64 0), .s (.string ⟨#[]⟩), .s (.int .i64 0)] := by kernel_rfl
theorem ck_328 : ck Tryz.prog 328 = some (true, 3, [.s (.int .i64 0), .s (.string ⟨#[]⟩), .s (.int .i64 0)]) := by kernel_rfl
theorem mixed : Tryz.prog.follows .mixedOrders = true := by kernel_rfl
def mdT : FuncId -> List Nat
 | 10 => [2, 2]
 | 17 => [1, 0]
 | 18 => [1, 0]
 | 19 => [1, 0]
 | 23 => [2, 2]
 | 26 => [1, 0]
 | 36 => [1, 0, 0, 2, 0]
 | 37 => [1, 2, 2, 0]
 | 47 => [1, 0, 2, 0]
 | 49 => [1, 2, 2, 0]
 | 50 => [1, 2]
 | 55 => [1, 0]
 | 56 => [1, 0]
 | 57 => [1, 0]
 | 58 => [1, 0]
 | 66 => [1]
 | 76 => [1]
 | 79 => [1, 0, 0, 0]
 | 80 => [1, 0, 0]
 | 81 => [2, 2, 2]
 | 82 => [1, 0, 0]
 | 99 => [1]
 | 101 => [1, 0, 0, 0]
 | 103 => [1, 0, 0]
 | 104 => [1, 2, 2]
 | 111 => [1, 0]
 | 120 => [1, 0]
 | 121 => [1]
 | 130 => [1, 0]
 | 131 => [2, 0, 2]
 | 150 => [1, 0, 2]
 | 151 => [2]
 | 164 => [1]
 | 165 => [1, 0]
 | 166 => [1, 0]
 | 167 => [1, 1]
 | 168 => [1]
 | 169 => [1]
 | 170 => [1]
 | 171 => [1]
 | 193 => [1, 0, 1]
 | 209 => [1]
 | 210 => [1, 0]
 | 211 => [1, 0]
 | 212 => [1, 0]
 | 213 => [1, 0]
 | 215 => [0, 0, 0, 1]
 | 216 => [1, 0, 0]
 | 217 => [1, 0]
 | 219 => [1, 0]
 | 236 => [1, 0]
 | 239 => [1, 0]
 | 240 => [1, 2]
 | 241 => [1, 0]
 | 250 => [1, 0]
 | 252 => [1]
 | 255 => [1, 0]
 | 256 => [1, 0, 0]
 | 261 => [1, 0]
 | 262 => [1, 0]
 | 263 => [1, 0]
 | _ => []
noncomputable def PM : Md := ⟨Tryz.prog, mdT, mixed, false, fun _ => false⟩
theorem PM_P : PM.P = Tryz.prog := rfl
theorem PM_lr (i : Nat) : PM.lr i = false := rfl
/-- the same; the guards of the regions l are known. -/
noncomputable def PMr (l : List Nat) : Md := ⟨Tryz.prog, mdT, mixed, false, litB l⟩
theorem PMr_P (l : List Nat) : (PMr l).P = Tryz.prog := rfl
theorem PMr_lr (l : List Nat) (i : Nat) : (PMr l).lr i = litB l i := rfl
theorem PMr_md (l : List Nat) : (PMr l).md = PM.md := rfl
theorem md_3 : PM.md 3 = [] := rfl
theorem md_4 : PM.md 4 = [] := rfl
theorem md_8 : PM.md 8 = [] := rfl
theorem md_9 : PM.md 9 = [] := rfl
theorem md_10 : PM.md 10 = [2, 2] := rfl
theorem md_11 : PM.md 11 = [] := rfl
theorem md_12 : PM.md 12 = [] := rfl
theorem md_13 : PM.md 13 = [] := rfl
theorem md_14 : PM.md 14 = [] := rfl
theorem md_15 : PM.md 15 = [] := rfl
theorem md_16 : PM.md 16 = [] := rfl
theorem md_17 : PM.md 17 = [1, 0] := rfl
theorem md_18 : PM.md 18 = [1, 0] := rfl
theorem md_19 : PM.md 19 = [1, 0] := rfl
theorem md_20 : PM.md 20 = [] := rfl
theorem md_22 : PM.md 22 = [] := rfl
theorem md_23 : PM.md 23 = [2, 2] := rfl
theorem md_25 : PM.md 25 = [] := rfl
theorem md_26 : PM.md 26 = [1, 0] := rfl
theorem md_29 : PM.md 29 = [] := rfl
theorem md_31 : PM.md 31 = [] := rfl
theorem md_32 : PM.md 32 = [] := rfl
theorem md_33 : PM.md 33 = [] := rfl
theorem md_34 : PM.md 34 = [] := rfl
theorem md_35 : PM.md 35 = [] := rfl
theorem md_36 : PM.md 36 = [1, 0, 0, 2, 0] := rfl
theorem md_37 : PM.md 37 = [1, 2, 2, 0] := rfl
theorem md_38 : PM.md 38 = [] := rfl
theorem md_39 : PM.md 39 = [] := rfl
theorem md_40 : PM.md 40 = [] := rfl
theorem md_41 : PM.md 41 = [] := rfl
theorem md_42 : PM.md 42 = [] := rfl
theorem md_43 : PM.md 43 = [] := rfl
theorem md_44 : PM.md 44 = [] := rfl
theorem md_45 : PM.md 45 = [] := rfl
theorem md_46 : PM.md 46 = [] := rfl
theorem md_47 : PM.md 47 = [1, 0, 2, 0] := rfl
theorem md_48 : PM.md 48 = [] := rfl
theorem md_49 : PM.md 49 = [1, 2, 2, 0] := rfl
theorem md_50 : PM.md 50 = [1, 2] := rfl
theorem md_51 : PM.md 51 = [] := rfl
theorem md_52 : PM.md 52 = [] := rfl
theorem md_53 : PM.md 53 = [] := rfl
theorem md_54 : PM.md 54 = [] := rfl
theorem md_55 : PM.md 55 = [1, 0] := rfl
theorem md_56 : PM.md 56 = [1, 0] := rfl
theorem md_57 : PM.md 57 = [1, 0] := rfl
theorem md_58 : PM.md 58 = [1, 0] := rfl
theorem md_59 : PM.md 59 = [] := rfl
theorem md_60 : PM.md 60 = [] := rfl
theorem md_62 : PM.md 62 = [] := rfl
theorem md_67 : PM.md 67 = [] := rfl
theorem md_68 : PM.md 68 = [] := rfl
theorem md_69 : PM.md 69 = [] := rfl
theorem md_70 : PM.md 70 = [] := rfl
theorem md_71 : PM.md 71 = [] := rfl
theorem md_72 : PM.md 72 = [] := rfl
theorem md_73 : PM.md 73 = [] := rfl
theorem md_74 : PM.md 74 = [] := rfl
theorem md_75 : PM.md 75 = [] := rfl
theorem md_76 : PM.md 76 = [1] := rfl
theorem md_77 : PM.md 77 = [] := rfl
theorem md_78 : PM.md 78 = [] := rfl
theorem md_79 : PM.md 79 = [1, 0, 0, 0] := rfl
theorem md_80 : PM.md 80 = [1, 0, 0] := rfl
theorem md_81 : PM.md 81 = [2, 2, 2] := rfl
theorem md_82 : PM.md 82 = [1, 0, 0] := rfl
theorem md_83 : PM.md 83 = [] := rfl
theorem md_84 : PM.md 84 = [] := rfl
theorem md_85 : PM.md 85 = [] := rfl
theorem md_86 : PM.md 86 = [] := rfl
theorem md_87 : PM.md 87 = [] := rfl
theorem md_88 : PM.md 88 = [] := rfl
theorem md_89 : PM.md 89 = [] := rfl
theorem md_90 : PM.md 90 = [] := rfl
theorem md_91 : PM.md 91 = [] := rfl
theorem md_92 : PM.md 92 = [] := rfl
theorem md_93 : PM.md 93 = [] := rfl
theorem md_94 : PM.md 94 = [] := rfl
theorem md_95 : PM.md 95 = [] := rfl
theorem md_96 : PM.md 96 = [] := rfl
theorem md_97 : PM.md 97 = [] := rfl
theorem md_98 : PM.md 98 = [] := rfl
theorem md_99 : PM.md 99 = [1] := rfl
theorem md_100 : PM.md 100 = [] := rfl
theorem md_101 : PM.md 101 = [1, 0, 0, 0] := rfl
theorem md_102 : PM.md 102 = [] := rfl
theorem md_103 : PM.md 103 = [1, 0, 0] := rfl
theorem md_104 : PM.md 104 = [1, 2, 2] := rfl
theorem md_105 : PM.md 105 = [] := rfl
theorem md_106 : PM.md 106 = [] := rfl
theorem md_107 : PM.md 107 = [] := rfl
theorem md_108 : PM.md 108 = [] := rfl
theorem md_109 : PM.md 109 = [] := rfl
theorem md_110 : PM.md 110 = [] := rfl
theorem md_111 : PM.md 111 = [1, 0] := rfl
theorem md_121 : PM.md 121 = [1] := rfl
theorem md_122 : PM.md 122 = [] := rfl
theorem md_123 : PM.md 123 = [] := rfl
theorem md_124 : PM.md 124 = [] := rfl
theorem md_125 : PM.md 125 = [] := rfl
theorem md_126 : PM.md 126 = [] := rfl
theorem md_127 : PM.md 127 = [] := rfl
theorem md_128 : PM.md 128 = [] := rfl
theorem md_129 : PM.md 129 = [] := rfl
theorem md_130 : PM.md 130 = [1, 0] := rfl
theorem md_131 : PM.md 131 = [2, 0, 2] := rfl
theorem md_132 : PM.md 132 = [] := rfl
theorem md_133 : PM.md 133 = [] := rfl
theorem md_134 : PM.md 134 = [] := rfl
theorem md_135 : PM.md 135 = [] := rfl
theorem md_136 : PM.md 136 = [] := rfl
theorem md_137 : PM.md 137 = [] := rfl
theorem md_138 : PM.md 138 = [] := rfl
theorem md_139 : PM.md 139 = [] := rfl
theorem md_140 : PM.md 140 = [] := rfl
theorem md_141 : PM.md 141 = [] := rfl
theorem md_142 : PM.md 142 = [] := rfl
theorem md_143 : PM.md 143 = [] := rfl
theorem md_144 : PM.md 144 = [] := rfl
theorem md_145 : PM.md 145 = [] := rfl
theorem md_146 : PM.md 146 = [] := rfl
theorem md_147 : PM.md 147 = [] := rfl
theorem md_148 : PM.md 148 = [] := rfl
theorem md_149 : PM.md 149 = [] := rfl
theorem md_150 : PM.md 150 = [1, 0, 2] := rfl
theorem md_151 : PM.md 151 = [2] := rfl
theorem md_152 : PM.md 152 = [] := rfl
theorem md_153 : PM.md 153 = [] := rfl
theorem md_154 : PM.md 154 = [] := rfl
theorem md_155 : PM.md 155 = [] := rfl
theorem md_156 : PM.md 156 = [] := rfl
theorem md_160 : PM.md 160 = [] := rfl
theorem md_163 : PM.md 163 = [] := rfl
theorem md_166 : PM.md 166 = [1, 0] := rfl
theorem md_172 : PM.md 172 = [] := rfl
theorem md_173 : PM.md 173 = [] := rfl
theorem md_174 : PM.md 174 = [] := rfl
theorem md_175 : PM.md 175 = [] := rfl
theorem md_176 : PM.md 176 = [] := rfl
theorem md_177 : PM.md 177 = [] := rfl
theorem md_178 : PM.md 178 = [] := rfl
theorem md_179 : PM.md 179 = [] := rfl
theorem md_180 : PM.md 180 = [] := rfl
theorem md_181 : PM.md 181 = [] := rfl
theorem md_182 : PM.md 182 = [] := rfl
theorem md_183 : PM.md 183 = [] := rfl
theorem md_184 : PM.md 184 = [] := rfl
theorem md_185 : PM.md 185 = [] := rfl
theorem md_186 : PM.md 186 = [] := rfl
theorem md_187 : PM.md 187 = [] := rfl
theorem md_188 : PM.md 188 = [] := rfl
theorem md_189 : PM.md 189 = [] := rfl
theorem md_190 : PM.md 190 = [] := rfl
theorem md_191 : PM.md 191 = [] := rfl
theorem md_192 : PM.md 192 = [] := rfl
theorem md_193 : PM.md 193 = [1, 0, 1] := rfl
theorem md_194 : PM.md 194 = [] := rfl
theorem md_195 : PM.md 195 = [] := rfl
theorem md_201 : PM.md 201 = [] := rfl
theorem md_213 : PM.md 213 = [1, 0] := rfl
theorem md_220 : PM.md 220 = [] := rfl
theorem md_221 : PM.md 221 = [] := rfl
theorem md_222 : PM.md 222 = [] := rfl
theorem md_223 : PM.md 223 = [] := rfl
theorem md_224 : PM.md 224 = [] := rfl
theorem md_225 : PM.md 225 = [] := rfl
theorem md_226 : PM.md 226 = [] := rfl
theorem md_227 : PM.md 227 = [] := rfl
theorem md_228 : PM.md 228 = [] := rfl
theorem md_229 : PM.md 229 = [] := rfl
theorem md_231 : PM.md 231 = [] := rfl
theorem md_242 : PM.md 242 = [] := rfl
theorem md_243 : PM.md 243 = [] := rfl
theorem md_244 : PM.md 244 = [] := rfl
theorem md_245 : PM.md 245 = [] := rfl
theorem md_257 : PM.md 257 = [] := rfl
theorem md_258 : PM.md 258 = [] := rfl
theorem md_259 : PM.md 259 = [] := rfl
theorem md_266 : PM.md 266 = [] := rfl
theorem md_268 : PM.md 268 = [] := rfl
theorem md_270 : PM.md 270 = [] := rfl
attribute [go_sem] PM_P PM_lr PMr_P PMr_lr PMr_md Md.at_P Md.at_md Md.at_lit litB_nil litB_cons tk_22 tk_23 tk_25 tk_26 tk_29 tk_31 tk_34 tk_35 tk_37 tk_39 tk_50 tk_59 tk_60 tk_62 tk_68 tk_70 Zf tk_77 tk_78 tk_90 tk_92 tk_121 tk_127 tk_129 tk_132 tk_135 tk_137 tk_141 tk_143 tk_149 tk_152 tk_160 tk_163 tk_166 tk_178 tk_182 tk_213 tk_231 tk_266 tk_268 tk_270 tk_328 ck_3 ck_4 ck_9 ck_22 ck_23 ck_25 ck_26 ck_29 ck_31 ck_34 ck_35 ck_37 ck_39 ck_50 ck_59 ck_60 ck_62 ck_68 ck_70 ck_75 ck_96 ck_121 ck_127 ck_129 ck_132 ck_135 ck_137 ck_141 ck_143 ck_160 ck_163 ck_213 ck_266 ck_268 ck_270 ck_328 un_4 un_9 un_22 un_23 un_26 un_29 un_34 un_35 un_39 un_50 un_60 un_68 un_75 un_121 un_127 un_135 un_152 un_166 un_231 un_266 md_3 md_4 md_8 md_9 md_10 md_11 md_12 md_13 md_14 md_15 md_16 md_17 md_18 md_19 md_20 md_22 md_23 md_25 md_26 md_29 md_31 md_32 md_33 md_34 md_35 md_36 md_37 md_38 md_39 md_40 md_41 md_42 md_43 md_44 md_45 md_46 md_47 md_48 md_49 md_50 md_51 md_52 md_53 md_54 md_55 md_56 md_57 md_58 md_59 md_60 md_62 md_67 md_68 md_69 md_70 md_71 md_72 md_73 md_74 md_75 md_76 md_77 md_78 md_79 md_80 md_81 md_82 md_83 md_84 md_85 md_86 md_87 md_88 md_89 md_90 md_91 md_92 md_93 md_94 md_95 md_96 md_97 md_98 md_99 md_100 md_101 md_102 md_103 md_104 md_105 md_106 md_107 md_108 md_109 md_110 md_111 md_121 md_122 md_123 md_124 md_125 md_126 md_127 md_128 md_129 md_130 md_131 md_132 md_133 md_134 md_135 md_136 md_137 md_138 md_139 md_140 md_141 md_142 md_143 md_144 md_145 md_146 md_147 md_148 md_149 md_150 md_151 md_152 md_153 md_154 md_155 md_156 md_160 md_163 md_166 md_172 md_173 md_174 md_175 md_176 md_177 md_178 md_179 md_180 md_181 md_182 md_183 md_184 md_185 md_186 md_187 md_188 md_189 md_190 md_191 md_192 md_193 md_194 md_195 md_201 md_213 md_220 md_221 md_222 md_223 md_224 md_225 md_226 md_227 md_228 md_229 md_231 md_242 md_243 md_244 md_245 md_257 md_258 md_259 md_266 md_268 md_270
end
end Go.Proofs.YtmnokalddmlogaaGreat
