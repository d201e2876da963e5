import Derived.Test.YtgcdbmcoendcdaaGreatExB
import Derived.Test.YtgcdbmcoendcdaaGreatBase
/- Folding of trees: plain. -/
namespace Go.Proofs.YtgcdbmcoendcdaaGreat
set_option linter.unusedVariables false
set_option linter.unusedSimpArgs false
open Arb
namespace Arb
mutual
def mapA {α β : Type} (f : α → β) : Arb α → Arb β
  | .mk a l => .mk (f a) (mapL f l)
def mapL {α β : Type} (f : α → β) : List (Arb α) → List (Arb β)
  | [] => []
  | t :: l => mapA f t :: mapL f l
end
theorem mapL_eq {α β : Type} (f : α → β) (l : List (Arb α)) : mapL f l = l.map (mapA f) := by
  induction l with
  | nil => rfl
  | cons t l ih => rw [mapL, ih]; rfl
theorem mapA_mk {α β : Type} (f : α → β) (a : α) (l : List (Arb α)) : mapA f (.mk a l) = .mk (f a) (l.map (mapA f)) := by rw [mapA, mapL_eq]
theorem mapA_a {α β : Type} (f : α → β) (t : Arb α) : (mapA f t).a = f t.a := by cases t; rfl
theorem mapA_kids {α β : Type} (f : α → β) (t : Arb α) : (mapA f t).kids = t.kids.map (mapA f) := by cases t; rw [mapA_mk]; rfl
theorem mapA_id {α : Type} : ∀ t : Arb α, mapA id t = t := fun t => by
  induction t using ind with
  | h a l ih =>
    rw [mapA_mk]
    congr 1
    exact (List.map_congr_left fun x hx => ih x hx).trans (List.map_id' l)
theorem mapA_size {α β : Type} (f : α → β) : ∀ t : Arb α, (mapA f t).size = t.size := fun t => by
  induction t using ind with
  | h a l ih =>
    rw [mapA_mk, size_mk, size_mk]
    congr 1
    induction l with
    | nil => rfl
    | cons t l ih2 => rw [List.map_cons, sizeL_cons, sizeL_cons, ih t (by simp), ih2 (fun x hx => ih x (by simp [hx]))]
end Arb
def patHas (q : MPat) (nm : ByteArray) : Bool := q.nodes.any fun x => (x.kind == 2) && (x.s.toList == nm.toList)
def bindsM (a : EI) (nm : ByteArray) (i : Nat) : Bool :=
  if a.kind = 5 ∨ a.kind = 8 then a.s.toList == nm.toList
  else if a.kind = 7 ∨ a.kind = 15 then decide (i = 1) && (a.s.toList == nm.toList)
  else if a.kind = 13 then decide (0 < i) && patHas (a.pats.getD (i - 1) ⟨[]⟩) nm
  else false
mutual
def countM (nm : ByteArray) : ET → Nat
  | .mk a l => if a.kind = 3 then (if a.s.toList == nm.toList then 1 else 0) else countL nm a 0 l
def countL (nm : ByteArray) (a : EI) : Nat → List ET → Nat
  | _, [] => 0
  | i, t :: l => (if bindsM a nm i then 0 else countM nm t) + countL nm a (i + 1) l
end
theorem countM_mk (nm : ByteArray) (a : EI) (l : List ET) : countM nm (.mk a l) = if a.kind = 3 then (if a.s.toList == nm.toList then 1 else 0) else countL nm a 0 l := by rw [countM]
theorem countL_nil (nm : ByteArray) (a : EI) (i : Nat) : countL nm a i [] = 0 := by rw [countL]
theorem countL_cons (nm : ByteArray) (a : EI) (i : Nat) (t : ET) (l : List ET) : countL nm a i (t :: l) = (if bindsM a nm i then 0 else countM nm t) + countL nm a (i + 1) l := by rw [countL]
theorem countL_app (nm : ByteArray) (a : EI) (i : Nat) (l m : List ET) : countL nm a i (l ++ m) = countL nm a i l + countL nm a (i + l.length) m := by
  induction l generalizing i with
  | nil => simp [countL_nil]
  | cons t l ih => rw [List.cons_append, countL_cons, countL_cons, ih, List.length_cons, show i + (l.length + 1) = i + 1 + l.length by omega, ← Nat.add_assoc]
theorem countL_take (nm : ByteArray) (a : EI) (l : List ET) (k : Nat) (h : k < l.length) : countL nm a 0 (l.take (k + 1)) = countL nm a 0 (l.take k) + (if bindsM a nm k then 0 else countM nm l[k]) := by
  rw [List.take_succ_eq_append_getElem h, countL_app, List.length_take, countL_cons, countL_nil, Nat.add_zero, Nat.zero_add, Nat.min_eq_left (by omega)]
theorem countL_le_of {nm : ByteArray} {a : EI} {l : List ET} (h : ∀ t ∈ l, countM nm t ≤ t.size) (i : Nat) : countL nm a i l ≤ sizeL l := by
  induction l generalizing i with
  | nil => rw [countL_nil]; exact Nat.zero_le _
  | cons t l ih =>
    have h1 := h t (by simp)
    have h2 := ih (fun x hx => h x (by simp [hx])) (i + 1)
    rw [countL_cons, sizeL_cons]
    split <;> omega
theorem countM_le (nm : ByteArray) : ∀ t : ET, countM nm t ≤ t.size := fun t => by
  induction t using Arb.ind with
  | h a l ih =>
    have := countL_le_of (nm := nm) (a := a) ih 0
    rw [countM_mk, size_mk]
    split
    · split <;> omega
    · omega
theorem countL_mono (nm : ByteArray) (a : EI) (l : List ET) (k : Nat) : countL nm a 0 (l.take k) ≤ countL nm a 0 l := by
  have := countL_app nm a 0 (l.take k) (l.drop k)
  rw [List.take_append_drop] at this
  omega
def primI (s : ByteArray) (m n : Int) : Option (Int × Bool) :=
  if s.toList = [43] then some (wrap63 (m + n), false)
  else if s.toList = [45] then some (wrap63 (m - n), false)
  else if s.toList = [42] then some (wrap63 (m * n), false)
  else if s.toList = [47] then (if wrap63 n == 0 then none else some (wrap63 ((wrap63 m).tdiv (wrap63 n)), false))
  else if s.toList = [37] then (if wrap63 n == 0 then none else some ((wrap63 m).tmod (wrap63 n), false))
  else if s.toList = [61] then some (if m = n then 1 else 0, true)
  else if s.toList = [60, 62] then some (if m = n then 0 else 1, true)
  else if s.toList = [60] then some (if m < n then 1 else 0, true)
  else some (if m ≤ n then 1 else 0, true)
def noS : ByteArray := ⟨#[]⟩
def trueS : ByteArray := ⟨#[116, 114, 117, 101]⟩
def falseS : ByteArray := ⟨#[102, 97, 108, 115, 101]⟩
section
variable {α : Type} (inf : α → EI) (mk : EI → α)
def foldP (a x y : EI) : Option EI :=
  if a.s.toList = [94] then
    (if x.kind = 2 ∧ y.kind = 2 ∧ x.s.size + y.s.size ≤ 1000 then some ⟨2, a.at_, 0, x.s ++ y.s, []⟩ else none)
  else if x.kind = 1 ∧ y.kind = 1 then
    (match primI a.s x.n y.n with
      | some (v, true) => some ⟨4, a.at_, 0, if v = 1 then trueS else falseS, []⟩
      | some (v, false) => if 0 ≤ v then some ⟨1, a.at_, v, noS, []⟩ else none
      | none => none)
  else none
def truthM (a : EI) : Int := if a.kind = 4 ∧ a.s.toList = [116, 114, 117, 101] then 1 else if a.kind = 4 ∧ a.s.toList = [102, 97, 108, 115, 101] then 0 else -1
def plainM (a : EI) (kids : Nat) : Bool := decide (a.kind = 1 ∨ a.kind = 2 ∨ a.kind = 12 ∨ a.kind = 5) || (decide (a.kind = 4) && decide (kids = 0))
def foldR (a : α) (l : List (Arb α)) : Arb α :=
  if (inf a).kind = 10 then (match l with
    | [x, y] => match foldP (inf a) (inf x.a) (inf y.a) with
      | some b => .mk (mk b) []
      | none => .mk a l
    | _ => .mk a l)
  else if (inf a).kind = 9 then (match l with
    | [c, x, y] => if truthM (inf c.a) = 1 then x else if truthM (inf c.a) = 0 then y else .mk a l
    | _ => .mk a l)
  else if (inf a).kind = 19 then (match l with
    | [x, y] => if (inf x.a).kind = 12 then y else .mk a l
    | _ => .mk a l)
  else if (inf a).kind = 7 then (match l with
    | [x, y] => if plainM (inf x.a) x.kids.length = true ∧ countM (inf a).s (mapA inf y) = 0 then y else .mk a l
    | _ => .mk a l)
  else .mk a l
mutual
def foldG : Arb α → Arb α
  | .mk a l => foldR inf mk a (foldGL l)
def foldGL : List (Arb α) → List (Arb α)
  | [] => []
  | t :: l => foldG t :: foldGL l
end
theorem foldGL_eq (l : List (Arb α)) : foldGL inf mk l = l.map (foldG inf mk) := by
  induction l with
  | nil => rfl
  | cons t l ih => rw [foldGL, ih]; rfl
theorem foldG_mk (a : α) (l : List (Arb α)) : foldG inf mk (.mk a l) = foldR inf mk a (l.map (foldG inf mk)) := by rw [foldG, foldGL_eq]
theorem foldR_inf (hm : ∀ e, inf (mk e) = e) (a : α) (l : List (Arb α)) : mapA inf (foldR inf mk a l) = foldR id id (inf a) (l.map (mapA inf)) := by
  have e0 : mapA inf (.mk a l) = .mk (inf a) (l.map (mapA inf)) := mapA_mk _ _ _
  unfold foldR
  simp only [id]
  by_cases h1 : (inf a).kind = 10
  · rw [if_pos h1, if_pos h1]
    match l, e0 with
    | [x, y], e0 =>
      simp only [List.map_cons, List.map_nil, mapA_a]
      cases foldP (inf a) (inf x.a) (inf y.a) with
      | none => exact e0
      | some b => simp only [mapA_mk, hm]; rfl
    | [], e0 => exact e0
    | [x], e0 => exact e0
    | x :: y :: z :: r, e0 => exact e0
  · rw [if_neg h1, if_neg h1]
    by_cases h2 : (inf a).kind = 9
    · rw [if_pos h2, if_pos h2]
      match l, e0 with
      | [c, x, y], e0 =>
        simp only [List.map_cons, List.map_nil, mapA_a]
        split
        · rfl
        · split
          · rfl
          · exact e0
      | [], e0 => exact e0
      | [x], e0 => exact e0
      | [x, y], e0 => exact e0
      | x :: y :: z :: u :: r, e0 => exact e0
    · rw [if_neg h2, if_neg h2]
      by_cases h3 : (inf a).kind = 19
      · rw [if_pos h3, if_pos h3]
        match l, e0 with
        | [x, y], e0 =>
          simp only [List.map_cons, List.map_nil, mapA_a]
          split
          · rfl
          · exact e0
        | [], e0 => exact e0
        | [x], e0 => exact e0
        | x :: y :: z :: r, e0 => exact e0
      · rw [if_neg h3, if_neg h3]
        by_cases h4 : (inf a).kind = 7
        · rw [if_pos h4, if_pos h4]
          match l, e0 with
          | [x, y], e0 =>
            simp only [List.map_cons, List.map_nil, mapA_a, mapA_kids, List.length_map]
            rw [show mapA id (mapA inf y) = mapA inf y from mapA_id _]
            split
            · rfl
            · exact e0
          | [], e0 => exact e0
          | [x], e0 => exact e0
          | x :: y :: z :: r, e0 => exact e0
        · rw [if_neg h4, if_neg h4]; exact e0
theorem foldG_inf (hm : ∀ e, inf (mk e) = e) : ∀ t : Arb α, mapA inf (foldG inf mk t) = foldG id id (mapA inf t) := fun t => by
  induction t using Arb.ind with
  | h a l ih =>
    rw [foldG_mk, foldR_inf inf mk hm, mapA_mk, foldG_mk, List.map_map, List.map_map]
    congr 1
    exact List.map_congr_left fun x hx => ih x hx
end
abbrev foldE : ET → ET := foldG id id
theorem foldR_cases {P : ET → Prop} (a : EI) (l : List ET) (h0 : P (.mk a l)) (h1 : ∀ x y b, l = [x, y] → a.kind = 10 → foldP a x.a y.a = some b → P (.mk b [])) (h2 : ∀ x ∈ l, a.kind ≠ 10 → P x) : P (foldR id id a l) := by
  unfold foldR
  simp only [id]
  split
  · rename_i hk
    split
    · rename_i x y
      split
      · rename_i b hb; exact h1 x y b rfl hk hb
      · exact h0
    · exact h0
  · rename_i hk
    split
    · split
      · split
        · exact h2 _ (by simp) hk
        · split
          · exact h2 _ (by simp) hk
          · exact h0
      · exact h0
    · split
      · split
        · split
          · exact h2 _ (by simp) hk
          · exact h0
        · exact h0
      · split
        · split
          · split
            · exact h2 _ (by simp) hk
            · exact h0
          · exact h0
        · exact h0
theorem foldE_size : ∀ t : ET, (foldE t).size ≤ t.size := fun t => by
  induction t using Arb.ind with
  | h a l ih =>
    have hs : sizeL (l.map foldE) ≤ sizeL l := by
      clear a
      induction l with
      | nil => exact Nat.le_refl _
      | cons t l ih2 => rw [List.map_cons, sizeL_cons, sizeL_cons]; have := ih t (by simp); have := ih2 (fun x hx => ih x (by simp [hx])); omega
    show (foldG id id (.mk a l)).size ≤ _
    rw [foldG_mk]
    refine foldR_cases (P := fun t => t.size ≤ (Arb.mk a l).size) a (l.map foldE) ?_ ?_ ?_
    · rw [size_mk, size_mk]; omega
    · intro x y b h _ _
      rw [size_mk, size_mk, sizeL_nil]; omega
    · intro x hx _
      have := size_mem hx
      rw [size_mk]; omega
theorem foldP_ok {a x y b : EI} (ha : 0 ≤ a.at_) (h : foldP a x y = some b) : okN b [] := by
  unfold foldP at h
  split at h
  · split at h
    · injection h with h; subst h
      exact ⟨.str rfl rfl, ha, .inr rfl, .inr rfl, by simp⟩
    · cases h
  · split at h
    · split at h
      · rename_i v _
        injection h with h; subst h
        refine ⟨.con0 rfl rfl ?_, ha, .inr rfl, .inr rfl, by simp⟩
        simp only
        have e1 : trueS.toList = [116, 114, 117, 101] := by rw [ByteArray.toList_eq]; rfl
        have e2 : falseS.toList = [102, 97, 108, 115, 101] := by rw [ByteArray.toList_eq]; rfl
        split
        · unfold shapeM; rw [e1]; decide
        · unfold shapeM; rw [e2]; decide
      · rename_i v hp
        split at h
        · rename_i h0
          injection h with h; subst h
          refine ⟨.int rfl rfl h0 ?_ (by show noS.toList = []; rw [ByteArray.toList_eq]; rfl), ha, .inl rfl, .inr rfl, by simp⟩
          simp only
          unfold primI at hp
          have w := fun n => (wrap63_bd n).2
          repeat' (split at hp)
          all_goals first
            | (injection hp with hp; injection hp with h1 h2; subst h1; first | exact w _ | (cases h2; done) | skip)
            | (cases hp; done)
          have b1 := wrap63_bd x.n
          have b2 := natAbs_tmod_le (wrap63 x.n) (wrap63 y.n)
          have b3 := tmod_bd (wrap63 x.n) (wrap63 y.n) b1.1 b1.2
          rename_i q _
          by_cases hz : 0 ≤ wrap63 x.n
          · omega
          · have h3 := Int.tmod_nonneg (wrap63 y.n) (show 0 ≤ -(wrap63 x.n) by omega)
            rw [Int.neg_tmod] at h3
            omega
        · cases h
      · cases h
    · cases h
theorem foldE_kind {a : EI} {l : List ET} (h : a.kind ≠ 10 ∧ a.kind ≠ 9 ∧ a.kind ≠ 19 ∧ a.kind ≠ 7) : foldE (.mk a l) = .mk a (l.map foldE) := by
  show foldG id id _ = _
  rw [foldG_mk]
  unfold foldR
  simp only [id, if_neg h.1, if_neg h.2.1, if_neg h.2.2.1, if_neg h.2.2.2]
theorem EV.fold {a : EI} {l : List ET} (v : EV a l) : EV a (l.map foldE) := by
  cases v with
  | int k e h1 h2 h3 => subst e; exact .int k rfl h1 h2 h3
  | str k e => subst e; exact .str k rfl
  | var k e h => subst e; exact .var k rfl h
  | con0 k e h => subst e; exact .con0 k rfl h
  | cons b x y k e h1 h2 =>
    subst e
    refine .cons b (foldE x) (foldE y) k ?_ h1 h2
    rw [List.map_cons, List.map_nil, foldE_kind (by rw [h1]; decide)]; rfl
  | con1 x k e h => subst e; exact .con1 _ k rfl h
  | func x k e h => subst e; exact .func _ k rfl h
  | app x y k e h => subst e; exact .app _ _ k rfl h
  | let_ x y k e h => subst e; exact .let_ _ _ k rfl h
  | rec_ b x y k e h1 h2 =>
    subst e
    refine .rec_ b (foldE x) (foldE y) k ?_ h1 h2
    rw [List.map_cons, List.map_cons, List.map_nil, foldE_kind (by rw [h1]; decide)]; rfl
  | if_ x y z k e h => subst e; exact .if_ _ _ _ k rfl h
  | prim x y k e h => subst e; exact .prim _ _ k rfl h
  | pair x y k e h => subst e; exact .pair _ _ k rfl h
  | unit k e h => subst e; exact .unit k rfl h
  | mat x r k e h1 h2 h3 => subst e; exact .mat _ (r.map foldE) k rfl (by simpa using h1) (by simpa using h2) h3
  | raise x k e h => subst e; exact .raise _ k rfl h
  | try_ x y k e h => subst e; exact .try_ _ _ k rfl h
  | ref x k e h => subst e; exact .ref _ k rfl h
  | get x k e h => subst e; exact .get _ k rfl h
  | set x y k e h => subst e; exact .set _ _ k rfl h
  | seq x y k e h => subst e; exact .seq _ _ k rfl h
theorem okT_fold : ∀ t : ET, okT t → okT (foldE t) := fun t => by
  induction t using Arb.ind with
  | h a l ih =>
    intro h
    have hr := h.root
    have hk : ∀ x ∈ l.map foldE, okT x := fun x hx => by
      obtain ⟨y, hy, rfl⟩ := List.mem_map.1 hx
      exact ih y hy (h.kid y hy)
    show okT (foldG id id (.mk a l))
    rw [foldG_mk]
    refine foldR_cases (P := okT) a (l.map foldE) ?_ ?_ ?_
    · exact All.mk ⟨hr.v.fold, hr.at0, hr.n0, hr.p0, hr.pm⟩ hk
    · intro x y b _ _ hb
      exact All.mk (foldP_ok hr.at0 hb) (by simp)
    · intro x hx _
      exact hk x hx
end Go.Proofs.YtgcdbmcoendcdaaGreat
