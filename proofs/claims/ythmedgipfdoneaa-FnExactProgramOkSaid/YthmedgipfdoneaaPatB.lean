import Derived.Test.YthmedgipfdoneaaBase
import Derived.Test.YthmedgipfdoneaaTyB
import Derived.Deep.QuietTactic
import Derived.BigQuiet
import Derived.WalkKit
import Derived.Lib.Hide
import Derived.Laws.EntriesVeiled
import Derived.Test.YthmedgipfdoneaaDecB
import Derived.Deep.RegionLaw
import Derived.Deep.CutRange
/- Data in slices, whatever the elements: sizes, copies under way. -/
namespace Go.Proofs.Ythmedgipfdoneaa
set_option linter.unusedVariables false
open Go.RowKit
/-- the answer of a size function: what is left, or less than nothing; P: the data are small. -/
def SzS (left : Int) (P : Prop) (e : Ending) : Prop := ∃ r : Int, e = .returned (.int .i64 r) ∧ -1 ≤ r ∧ r ≤ left ∧ (0 ≤ r → P)
def SmallS {α : Type} (s : α → Prop) (xs : List α) : Prop := xs.length ≤ 1048576 ∧ ∀ i (h : i < xs.length), s xs[i]
/-- a copy under way: j elements are laid, the others are as made. -/
def Part {α : Type} (k : Nat) (R : Hp → List Value → α → Prop) (e : TypeId) (h : Hp) (B g : Nat) (xs : List α) (w : World) (j : Nat) (hc : Hp) : Prop :=
  ∃ rows : List (List Value), rows.length = xs.length ∧ (∀ r ∈ rows, r.length = k) ∧ Own w B e k (.slice (some ⟨g, 0, none⟩) xs.length xs.length) xs.length rows.flatten ∧
    (∀ i (h1 : i < rows.length) (h2 : i < xs.length), i < j → R hc rows[i] xs[i]) ∧ Live h B hc w ∧ hc g = none ∧ B ≤ g
theorem flatten_len {k : Nat} : ∀ (rows : List (List Value)), (∀ r ∈ rows, r.length = k) → rows.flatten.length = rows.length * k
  | [], _ => by simp
  | r :: l, h => by
    rw [List.flatten_cons, List.length_append, h r (by simp), flatten_len l (fun x hx => h x (by simp [hx])), List.length_cons, Nat.add_mul]; omega
/-- k cells from a place on, set. -/
def setRow : List Value → Nat → List Value → List Value
  | xs, _, [] => xs
  | xs, p, u :: r => setRow (xs.set p u) (p + 1) r
theorem setRow_cons (y : Value) : ∀ (r l : List Value) (p : Nat), setRow (y :: l) (p + 1) r = y :: setRow l p r
  | [], _, _ => rfl
  | u :: r, l, p => by rw [setRow, setRow, List.set_cons_succ, setRow_cons y r]
theorem setRow_app : ∀ (a l : List Value) (p : Nat) (r : List Value), setRow (a ++ l) (a.length + p) r = a ++ setRow l p r
  | [], l, p, r => by simp
  | y :: a, l, p, r => by
    rw [List.cons_append, List.length_cons, show a.length + 1 + p = a.length + p + 1 by omega, setRow_cons, setRow_app a l p r]; rfl
theorem setRow_head : ∀ (r r0 l : List Value), r.length = r0.length → setRow (r0 ++ l) 0 r = r ++ l
  | [], [], l, _ => rfl
  | [], _ :: _, _, h => by simp at h
  | u :: r, [], _, h => by simp at h
  | u :: r, u0 :: r0, l, h => by
    rw [setRow, List.cons_append, List.set_cons_zero, Nat.zero_add, show (1 : Nat) = 0 + 1 from rfl, setRow_cons, setRow_head r r0 l (by simpa using h)]; rfl
theorem setRow_flat {k : Nat} : ∀ (rows : List (List Value)) (j : Nat) (r : List Value), (∀ r ∈ rows, r.length = k) → r.length = k → j < rows.length → setRow rows.flatten (j * k) r = (rows.set j r).flatten
  | [], j, r, _, _, h => by simp at h
  | r0 :: l, 0, r, h, hr, _ => by
    rw [List.flatten_cons, Nat.zero_mul, setRow_head r r0 _ (by rw [hr, h r0 (by simp)])]; rfl
  | r0 :: l, j + 1, r, h, hr, hj => by
    have h0 := h r0 (by simp)
    rw [List.flatten_cons, show (j + 1) * k = r0.length + j * k by rw [h0, Nat.add_mul]; omega, setRow_app, setRow_flat l j r (fun x hx => h x (by simp [hx])) hr (by simpa using hj)]
    rfl
/-- the row is laid. -/
theorem Part.lay {α : Type} {k : Nat} {R : Hp → List Value → α → Prop} {e : TypeId} {h : Hp} {B g : Nat} {xs : List α} {w' : World} {j : Nat} {hc hc' : Hp} {rows : List (List Value)} (r : List Value)
    (h1 : rows.length = xs.length) (h2 : ∀ r ∈ rows, r.length = k) (hr : r.length = k) (hown : Own w' B e k (.slice (some ⟨g, 0, none⟩) xs.length xs.length) xs.length (setRow rows.flatten (j * k) r))
    (h3 : ∀ i (h1 : i < rows.length) (h2 : i < xs.length), i < j → R hc rows[i] xs[i]) (hle : HLe hc hc') (hm : ∀ r x, R hc r x → R hc' r x) (hj : j < xs.length) (hR : R hc' r xs[j]) (hl : Live h B hc' w') (hg : hc' g = none) (hB : B ≤ g) :
    Part k R e h B g xs w' (j + 1) hc' := by
  refine ⟨rows.set j r, by simpa using h1, ?_, ?_, ?_, hl, hg, hB⟩
  · intro x hx
    rcases List.mem_or_eq_of_mem_set hx with hx | rfl
    · exact h2 x hx
    · exact hr
  · rw [← setRow_flat rows j r h2 hr (by omega)]; exact hown
  · intro i i1 i2 hij
    by_cases he : i = j
    · subst he
      rw [List.getElem_set_self]; exact hR
    · rw [List.getElem_set_ne (by omega)]
      exact hm _ _ (h3 i (by simpa using i1) i2 (by omega))
theorem made_rows (z : Array Value) (k n : Nat) (hz : z.size = k) (hk : 0 < k) : (madeCells z (n * k)).toList = (List.replicate n z.toList).flatten := by
  have key : ∀ n : Nat, (List.range (n * k)).map (fun j => (z[j % k]!)) = (List.replicate n z.toList).flatten := by
    intro n
    induction n with
    | zero => simp
    | succ n ih =>
      rw [List.replicate_succ', List.flatten_append, ← ih, Nat.add_mul, Nat.one_mul, List.range_add, List.map_append]
      congr 1
      rw [List.map_map]
      simp only [List.flatten_cons, List.flatten_nil, List.append_nil]
      apply List.ext_getElem
      · simp [hz]
      · intro i h1 h2
        simp only [List.getElem_map, List.getElem_range, Function.comp_apply]
        have hi : i < k := by simpa using h1
        rw [Nat.add_comm, Nat.add_mul_mod_self_right, Nat.mod_eq_of_lt hi, getElem!_pos z i (by omega)]
        simp
  rw [← key]
  simp [madeCells, hz]
theorem Part.start {α : Type} {k : Nat} {R : Hp → List Value → α → Prop} {e : TypeId} {h : Hp} {B g : Nat} {xs : List α} {w : World} {z : Array Value} (hz : z.size = k) (hk : 0 < k) (hown : Own w B e k (.slice (some ⟨g, 0, none⟩) xs.length xs.length) xs.length (madeCells z (xs.length * k)).toList) (hl : Live h B h w) (hg : h g = none) (hB : B ≤ g) :
    Part k R e h B g xs w 0 h := by
  rw [made_rows z k _ hz hk] at hown
  refine ⟨_, by simp, ?_, hown, fun i _ _ hi => by omega, hl, hg, hB⟩
  intro r hr
  rw [(List.mem_replicate.1 hr).2]; simpa using hz
theorem Part.done {α : Type} {k : Nat} {R : Hp → List Value → α → Prop} {e : TypeId} {h : Hp} {B g : Nat} {xs : List α} {w : World} {hc : Hp} (hm : ∀ h h' r x, HLe h h' → R h r x → R h' r x) (hp : Part k R e h B g xs w xs.length hc) :
    SlOf k R (ext h B w) (.slice (some ⟨g, 0, none⟩) xs.length xs.length) xs := by
  obtain ⟨rows, h1, h2, hown, h3, hl, hg, hB⟩ := hp
  have ho := hl.out
  have := own_read (w := w) (B := B) (e := e) (k := k) (v := .slice (some ⟨g, 0, none⟩) xs.length xs.length) rows id (fun x hx => h2 x hx) (fun _ r x => r = x) (ext h B w) (fun b hb => ext_new hb) (fun _ _ => rfl) (by rw [h1, List.flatMap_id]; exact hown)
  obtain ⟨a, c, e1, hc1, hc2, hr⟩ := this
  injection e1 with e1 e2 e3
  subst e1 e3
  refine ⟨_, _, rfl, by omega, hc2, ?_⟩
  rcases hr with hr | ⟨b, off, ea, hr⟩
  · left
    have : rows.length = 0 := by rw [hr]; rfl
    exact List.eq_nil_of_length_eq_zero (by omega)
  · right
    refine ⟨b, off, ea, fun i hi => ?_⟩
    obtain ⟨r, r1, r2, rfl⟩ := hr i (by omega)
    exact ⟨_, r1, r2, hm _ _ _ _ ho (h3 i (by omega) hi hi)⟩
/-- cells of the array that is being laid. -/
theorem own_cells {w : World} {B g n m c : Nat} {e : TypeId} {k : Nat} {xs : List Value} (h : Own w B e k (.slice (some ⟨g, 0, none⟩) m c) n xs) (j : Nat) (hj : j < n * k) : (∃ o, w.cell? ⟨g, j, none⟩ = some o) ∧ w.frozen? ⟨g, j, none⟩ = false := by
  obtain ⟨-, -, hxl, hcs, hfr, -⟩ := own_parts h
  exact ⟨⟨_, (hcs j (by omega)).trans (List.getElem?_eq_getElem (by omega))⟩, hfr j⟩

theorem Live.le_of {h : Hp} {B : Nat} {h1 : Hp} {w1 w2 : World} (l : Live h B (ext h1 w1.heap.size w2) w2) (s : Sub h1 w1) : HLe h1 (ext h1 w1.heap.size w2) := fun b o e => by rw [ext_old (s.lt e)]; exact e
theorem ext_mono {h h' : Hp} {B : Nat} {w : World} (l : HLe h h') : HLe (ext h B w) (ext h' B w) := fun b o e => by
  by_cases hb : b < B
  · rw [ext_old hb] at e ⊢; exact l _ _ e
  · rw [ext_new (by omega)] at e ⊢; exact e
theorem Live.next {h h1 : Hp} {B : Nat} {wa wb w2 : World} (_ : Live h B h1 wa) (hb : Below wb.heap.size wb w2) (g : Live h B h1 wb) : Live h B h1 w2 := g.below hb
end Go.Proofs.Ythmedgipfdoneaa

/- Slices of numbers: szIntS, toIntS, eqIntS. -/
namespace Go.Proofs.Ythmedgipfdoneaa
set_option linter.unusedVariables false
set_option linter.unusedSimpArgs false
open Go.RowKit Go.ChangeShapes Go.WideShapes
def intR (_ : Hp) (r : List Value) (x : Int) : Prop := r = [.int .i64 x] ∧ I64 x
abbrev IntS (h : Hp) (v : Value) (xs : List Int) : Prop := SlOf 1 intR h v xs
theorem IntS.mono {h h' : Hp} {v : Value} {xs : List Int} (q : IntS h v xs) (l : HLe h h') : IntS h' v xs := SlOf.le q l fun _ _ _ q => q
theorem IntS.mem {h : Hp} {v : Value} {xs : List Int} (q : IntS h v xs) : ∀ x ∈ xs, I64 x := by
  obtain ⟨a, c, _, _, _, r⟩ := q
  intro x hx
  rcases r with rfl | ⟨b, off, _, hc⟩
  · cases hx
  · obtain ⟨i, hi, rfl⟩ := List.getElem_of_mem hx
    obtain ⟨_, _, _, hr⟩ := hc i hi
    exact hr.2
theorem IntS.cell {h : Hp} {a : Option Addr} {n c : Nat} {xs : List Int} (q : IntS h (.slice a n c) xs) {i : Nat} (hi : i < xs.length) :
    ∃ b off, a = some ⟨b, off, none⟩ ∧ ∀ j (hj : j < xs.length), ∀ w : World, Sub h w → w.cell? ⟨b, off + j, none⟩ = some (.int .i64 xs[j]) := by
  obtain ⟨a', c', e, _, _, r⟩ := q
  injection e with e1 e2 e3
  subst e1
  rcases r with rfl | ⟨b, off, ea, hc⟩
  · simp at hi
  · refine ⟨b, off, ea, fun j hj w hw => ?_⟩
    obtain ⟨r, hr1, hr2, hr3⟩ := hc j hj
    rw [hr3.1, Nat.mul_one] at hr2
    exact hr2.cell hw (i := 0) (by simp)
theorem rd_int1 {H : Type} {enc : TypeId × Value → H} {W : World} {n : Nat} {cs : List Value} {x : DataW H × List MemPlace} (h : Rd enc Try.prog W n 3 cs x) : ∃ t : Int, intR (hp W) cs t := by
  obtain ⟨k0, e0, -, z0⟩ := DataW.trod_int Try.underlying3 h
  exact ⟨k0, e0, i64_of z0⟩
theorem rd_ints {H : Type} {enc : TypeId × Value → H} {W : World} {n : Nat} {cs : List Value} {x : DataW H × List MemPlace} (h : Rd enc Try.prog W n 61 cs x) : ∃ v xs, cs = [v] ∧ IntS (hp W) v xs :=
  rd_slice 1 intR Try.underlying61 cells_tint (by decide) (fun n cs' y hy => rd_int1 hy) h
theorem info_int : (Try.prog.info? 3).map (fun i => (i.zero, i.size, i.bytes)) = some (some (.int .i64 0), 1, 8) := by kernel_rfl
theorem laws_szIntS (w : World) (h : Hp) (hs : Sub h w) (v : Value) (xs : List Int) (hv : IntS h v xs) (left : Int) (h0 : 0 ≤ left) (h1 : left ≤ 1048576) :
    Calls Try.prog 107 #[v, .int .i64 left] w fun e w' => SzS left (SmallS (fun (_ : Int) => True) xs) e ∧ Below w.heap.size w w' := by
  obtain ⟨a, c, rfl, hc1, hc2, -⟩ := hv
  unfold maxLen at hc2
  by_cases hl : left < xs.length
  · go_enter Try.func107, Try.ntmps107
    go_wp2
    go_ret
    exact ⟨⟨_, rfl, by omega, by omega, by omega⟩, Below.refl _ _⟩
  · go_enter Try.func107, Try.ntmps107
    go_wp2
    go_ret
    exact ⟨⟨_, rfl, by omega, by omega, fun _ => ⟨by omega, fun _ _ => trivial⟩⟩, Below.refl _ _⟩
def intsPost (h : Hp) (w : World) (xs : List Int) (e : Ending) (w' : World) : Prop := ∃ v', e = .returned v' ∧ IntS (ext h w.heap.size w') v' xs ∧ Below w.heap.size w w'
set_option maxRecDepth 100000 in
set_option maxHeartbeats 2000000 in
theorem laws_toIntS (w : World) (h : Hp) (hs : Sub h w) (v : Value) (xs : List Int) (hv : IntS h v xs) (hsm : SmallS (fun (_ : Int) => True) xs) :
    Calls Try.prog 112 #[v] w fun e w' => intsPost h w xs e w' := by
  have hm := Lib.hid hv.mem
  have HV := Lib.hid hv
  have hl := hsm.1
  clear hsm
  obtain ⟨a, c, rfl, hc1, hc2, -⟩ := hv
  unfold maxLen at hc2
  have hlm : xs.length ≤ maxLen := by unfold maxLen; omega
  go_enter Try.func112, Try.ntmps112
  go_wp2_with (first | (at_make; refine make_n Try.underlying61 info_int w rfl _ _ rfl w.heap.size _ _ xs.length rfl rfl rfl rfl (by omega) hlm (Nat.le_refl _) ?_))
  intro w1 hown hb1
  have hz1 := hb1.size
  have hg : w.heap.size < w1.heap.size := (own_parts hown).2.2.2.2.2
  have HP1 := Lib.hid (Part.start (k := 1) (R := intR) (h := h) (xs := xs) rfl Nat.one_pos (by rw [Nat.mul_one]; exact hown) ((Live.start hs).below hb1) (hs.none (Nat.le_refl _)) (Nat.le_refl _))
  clear hown
  go_wp2
  go_loopw [4] (fun i wr => ∃ (k : Nat) (hc : Hp), k ≤ xs.length ∧ i = .int .i64 k ∧ Part 1 intR 3 h w.heap.size w.heap.size xs wr k hc ∧ Below w.heap.size w wr) (fun i _ => xs.length - (intOf i).toNat)
  case atStart => exact ⟨0, h, by omega, rfl, HP1.out, hb1⟩
  case round =>
    obtain ⟨k, hc, hk, rfl, hpart, hbel⟩ := hrel
    by_cases hlt : k < xs.length
    · obtain ⟨rows, p1, p2, p3, p4, p5, p6, p7⟩ := hpart
      have hsub : Sub h wr := p5.sub.le p5.le
      have hgw : w.heap.size < wr.heap.size := (own_parts p3).2.2.2.2.2
      obtain ⟨b, off, rfl, hcell⟩ := HV.out.cell hlt
      have c0 := hcell k hlt wr hsub
      have HP4 := Lib.hid p4
      have HP5 := Lib.hid p5
      have HP6 := Lib.hid p6
      have hok := Lib.hid (hm.out _ (List.getElem_mem hlt))
      obtain ⟨⟨o0, g0⟩, f0⟩ := own_cells p3 k (by omega)
      have HS := Lib.hid (own_set p3 k (.int .i64 xs[k]))
      clear hcell p3 p4 p5 p6
      go_wp2_with fail
      go_roundw
      case rel => exact ⟨k + 1, hc, by omega, by go_num, Part.lay [.int .i64 xs[k]] p1 p2 rfl (by simpa [setRow] using HS.out) HP4.out (HLe.refl _) (fun _ _ q => q) hlt ⟨rfl, hok.out⟩ (HP5.out.setCell HP6.out _) HP6.out p7, hbel.setCell (Nat.le_refl _) _⟩
      case measure => simp [intOf]; omega
    · obtain rfl : k = xs.length := by omega
      have HO := Lib.hid (Part.done (R := intR) (fun _ _ _ _ l q => q) hpart)
      clear hpart
      go_wp2
      go_ret
      exact ⟨_, rfl, HO.out, hbel⟩
theorem below_drewI {B : Nat} {a w : World} (h : Below B a w) (n : Nat) : Below B a (w.drewN n) := ⟨h.os, h.tape, h.output, h.size, h.block⟩
theorem laws_eqIntS (w : World) (h : Hp) (hs : Sub h w) (u v : Value) (ss : List Int) (hu : IntS h u ss) (hv : IntS h v ss) :
    Calls Try.prog 121 #[u, v] w fun e w' => e = .returned (.bool true) ∧ Below w.heap.size w w' := by
  have HU := Lib.hid hu
  have HV := Lib.hid hv
  obtain ⟨a, c, rfl, hc1, hc2, -⟩ := hu
  obtain ⟨a', c', rfl, hc1', hc2', -⟩ := hv
  unfold maxLen at hc2 hc2'
  go_enter Try.func121, Try.ntmps121
  go_wp2
  go_loopw [5] (fun i wr => ∃ k : Nat, k ≤ ss.length ∧ i = .int .i64 k ∧ Below w.heap.size w wr) (fun i _ => ss.length - (intOf i).toNat)
  case atStart => exact ⟨0, by omega, rfl, Below.refl _ _⟩
  case round =>
    obtain ⟨k, hk, rfl, hbel⟩ := hrel
    by_cases hlt : k < ss.length
    · obtain ⟨b, off, rfl, hcell⟩ := HU.out.cell hlt
      obtain ⟨b', off', rfl, hcell'⟩ := HV.out.cell hlt
      have hc := hcell k hlt wr (hs.below hbel)
      have hc' := hcell' k hlt wr (hs.below hbel)
      clear hcell hcell'
      go_wp2
      go_quiet (fail)
      go_wp2
      go_roundw
      case rel => exact ⟨k + 1, by omega, by go_num, below_drewI hbel _⟩
      case measure => simp [intOf]; omega
    · go_wp2
      go_ret
      exact ⟨rfl, hbel⟩
end Go.Proofs.Ythmedgipfdoneaa

/- Data PNode: how they are read; sizes, copies, comparisons. Printed by gendata.py. -/
namespace Go.Proofs.Ythmedgipfdoneaa
set_option linter.unusedVariables false
set_option linter.unusedSimpArgs false
open Go.RowKit Go.ChangeShapes Go.WideShapes
structure DPNode where
  kind : Int
  n : Int
  s : ByteArray
  kids : List Int
def pNodeOk (x : DPNode) : Prop := I64 x.kind ∧ I64 x.n ∧ x.s.size ≤ maxLen
def pNodeSmall (x : DPNode) : Prop := x.s.size ≤ 1048576 ∧ SmallS (fun (_ : Int) => True) x.kids
def pNodeRel (h : Hp) (x : DPNode) (v1 : Value) : Prop := SlOf 1 intR h v1 x.kids
def pNodeR (h : Hp) (r : List Value) (x : DPNode) : Prop := ∃ v1 : Value, r = [.int .i64 x.kind, .int .i64 x.n, .string x.s, v1] ∧ pNodeOk x ∧ pNodeRel h x v1
theorem pNodeRel_mono {h h' : Hp} {x : DPNode} {v1 : Value} (l : HLe h h') (q : pNodeRel h x v1) : pNodeRel h' x v1 :=
  SlOf.le q l (fun _ _ _ q => q)
theorem pNodeR_mono {h h' : Hp} {r : List Value} {x : DPNode} (l : HLe h h') (q : pNodeR h r x) : pNodeR h' r x :=
  let ⟨v1, a, b, c⟩ := q; ⟨v1, a, b, pNodeRel_mono l c⟩
abbrev DPNodeS (h : Hp) (v : Value) (xs : List DPNode) : Prop := SlOf 4 pNodeR h v xs
theorem DPNodeS.mono {h h' : Hp} {v : Value} {xs : List DPNode} (q : DPNodeS h v xs) (l : HLe h h') : DPNodeS h' v xs := SlOf.le q l fun _ _ _ q => pNodeR_mono l q
theorem DPNodeS.mem {h : Hp} {v : Value} {xs : List DPNode} (q : DPNodeS h v xs) : ∀ x ∈ xs, pNodeOk x := by
  obtain ⟨a, c, _, _, _, r⟩ := q
  intro x hx
  rcases r with rfl | ⟨b, off, _, hc⟩
  · cases hx
  · obtain ⟨i, hi, rfl⟩ := List.getElem_of_mem hx
    obtain ⟨_, _, _, hr⟩ := hc i hi
    exact let ⟨_, _, b, _⟩ := hr; b
theorem DPNodeS.cell {h : Hp} {a : Option Addr} {n c : Nat} {xs : List DPNode} (q : DPNodeS h (.slice a n c) xs) {i : Nat} (hi : i < xs.length) :
    ∃ b off, a = some ⟨b, off, none⟩ ∧ ∀ j (hj : j < xs.length), ∃ v1 : Value, pNodeRel h xs[j] v1 ∧ ∀ w : World, Sub h w → w.cell? ⟨b, off + j * 4, none⟩ = some (.int .i64 xs[j].kind) ∧ w.cell? ⟨b, off + j * 4 + 1, none⟩ = some (.int .i64 xs[j].n) ∧ w.cell? ⟨b, off + j * 4 + 2, none⟩ = some (.string xs[j].s) ∧ w.cell? ⟨b, off + j * 4 + 3, none⟩ = some (v1) := by
  obtain ⟨a', c', e, _, _, r⟩ := q
  injection e with e1 e2 e3
  subst e1
  rcases r with rfl | ⟨b, off, ea, hc⟩
  · simp at hi
  · refine ⟨b, off, ea, fun j hj => ?_⟩
    obtain ⟨r, hr1, hr2, hr3⟩ := hc j hj
    obtain ⟨v1, e, _, hr⟩ := hr3
    rw [e] at hr2
    refine ⟨v1, hr, fun w hw => ?_⟩
    exact ⟨hr2.cell hw (i := 0) (by simp), hr2.cell hw (i := 1) (by simp), hr2.cell hw (i := 2) (by simp), hr2.cell hw (i := 3) (by simp)⟩
theorem cells_PNode : Try.prog.cellsOf 158 = 4 := by kernel_rfl
theorem cells_sInt_of_PNode : Try.prog.cellsOf 61 = 1 := by kernel_rfl
theorem tlen_PNode {cs : List Value} (h : cs.length = 4) : ∃ c0 c1 c2 c3 : Value, cs = [c0, c1, c2, c3] := by
  match cs, h with
  | [c0, c1, c2, c3], _ => exact ⟨c0, c1, c2, c3, rfl⟩
theorem rd_PNode {H : Type} {enc : TypeId × Value → H} {W : World} {n : Nat} {cs : List Value} {x : DataW H × List MemPlace} (h : Rd enc Try.prog W n 158 cs x) : ∃ t : DPNode, pNodeR (hp W) cs t := by
  obtain ⟨hl, m, hf⟩ := rd_fields Try.underlying158 h
  rw [cells_PNode] at hl
  obtain ⟨c0, c1, c2, c3, rfl⟩ := tlen_PNode hl
  simp only [List.forall_mem_cons, cells_tint, cells_tstring, cells_sInt_of_PNode] at hf
  obtain ⟨⟨_, h0⟩, ⟨_, h1⟩, ⟨_, h2⟩, ⟨_, h3⟩, _⟩ := hf
  obtain ⟨k0, e0, -, z0⟩ := DataW.trod_int Try.underlying3 h0
  simp at e0
  subst e0
  obtain ⟨k1, e1, -, z1⟩ := DataW.trod_int Try.underlying3 h1
  simp at e1
  subst e1
  obtain ⟨k2, e2, -, z2⟩ := DataW.trod_string Try.underlying9 h2
  simp at e2
  subst e2
  obtain ⟨v1, k3, e3, z3⟩ := rd_ints h3
  simp at e3
  subst e3
  exact ⟨⟨k0, k1, k2, k3⟩, _, rfl, ⟨i64_of z0, i64_of z1, z2⟩, z3⟩
theorem info_PNode : (Try.prog.info? 135).map (fun i => (i.zero, i.size, i.bytes)) = some (some (.agg #[.int .i64 0, .int .i64 0, .string ByteArray.empty, .slice none 0 0]), 4, 56) := by kernel_rfl
set_option maxRecDepth 100000 in
set_option maxHeartbeats 2000000 in
theorem laws_szPNode (w : World) (x : DPNode) (hx : pNodeOk x) (h : Hp) (s0 : Sub h w) (v1 : Value) (q : pNodeRel h x v1) (left : Int) (h0 : 0 ≤ left) (h1 : left ≤ 1048576) :
    Calls Try.prog 122 #[.agg #[.int .i64 x.kind, .int .i64 x.n, .string x.s, v1], .int .i64 left] w fun e w' => SzS left (pNodeSmall x) e ∧ Below w.heap.size w w' := by
  unfold pNodeOk maxLen at hx
  unfold pNodeSmall
  go_enter Try.func122, Try.ntmps122
  by_cases b0 : left < (x.s.size : Int)
  · go_wp2
    go_ret
    exact ⟨⟨_, rfl, by omega, by omega, by omega⟩, (by repeat (first | with_reducible exact Below.refl _ _ | with_reducible assumption | with_reducible refine Below.setCell ?_ ?_ _ | with_reducible refine Below.alloc ?_ ?_ _ | with_reducible refine Below.drew ?_ | (with_reducible apply below_chain; with_reducible assumption) | exact Nat.le_refl _ | omega | (simp <;> omega)))⟩
  ·
    go_wp2_with fail
    refine (laws_szIntS _ h (by repeat (first | assumption | refine Sub.alloc ?_ _ | refine Sub.drew ?_)) v1 x.kids q (left - (x.s.size : Int)) (by omega) (by omega)).mono ?_
    rintro e w2 ⟨⟨r2, rfl, u2, y2, z2⟩, hb2⟩
    obtain ⟨kc2, kf2⟩ := bcell hb2; have kz2 := hb2.size; (try simp at kz2); (first | (refine (fun (kw2_0 : w.heap.size  < w2.heap.size) => ?_) ?_; rotate_left; omega) | skip); (first | (refine (fun (kw2_1 : w.heap.size + 1 < w2.heap.size) => ?_) ?_; rotate_left; omega) | skip); (first | (refine (fun (kw2_2 : w.heap.size + 1 + 1 < w2.heap.size) => ?_) ?_; rotate_left; omega) | skip)
    have s2 : Sub h w2 := Sub.below (by repeat (first | assumption | refine Sub.alloc ?_ _ | refine Sub.drew ?_)) hb2
    by_cases m2 : r2 < 0
    · go_wp2_with fail
      go_ret
      exact ⟨⟨_, rfl, by omega, by omega, by omega⟩, (by repeat (first | with_reducible exact Below.refl _ _ | with_reducible assumption | with_reducible refine Below.setCell ?_ ?_ _ | with_reducible refine Below.alloc ?_ ?_ _ | with_reducible refine Below.drew ?_ | (with_reducible apply below_chain; with_reducible assumption) | exact Nat.le_refl _ | omega | (simp <;> omega)))⟩
    ·
      go_wp2_with fail
      go_ret
      exact ⟨⟨_, rfl, by omega, by omega, fun _ => ⟨by omega, z2 (by omega)⟩⟩, (by repeat (first | with_reducible exact Below.refl _ _ | with_reducible assumption | with_reducible refine Below.setCell ?_ ?_ _ | with_reducible refine Below.alloc ?_ ?_ _ | with_reducible refine Below.drew ?_ | (with_reducible apply below_chain; with_reducible assumption) | exact Nat.le_refl _ | omega | (simp <;> omega)))⟩
def pNodePost (h : Hp) (w : World) (x : DPNode) (e : Ending) (w' : World) : Prop := ∃ v1' : Value, e = .returned (.agg #[.int .i64 x.kind, .int .i64 x.n, .string x.s, v1']) ∧ pNodeRel (ext h w.heap.size w') x v1' ∧ Below w.heap.size w w'
set_option maxRecDepth 100000 in
set_option maxHeartbeats 2000000 in
theorem laws_toPNode (w : World) (x : DPNode) (h : Hp) (s0 : Sub h w) (v1 : Value) (q : pNodeRel h x v1) (hsm : pNodeSmall x) :
    Calls Try.prog 123 #[.agg #[.int .i64 x.kind, .int .i64 x.n, .string x.s, v1]] w fun e w' => pNodePost h w x e w' := by
  unfold pNodeSmall at hsm
  have n1 := s0.none (b := w.heap.size) (by omega)
  have n2 := s0.none (b := w.heap.size + 1) (by omega)
  have n3 := s0.none (b := w.heap.size + 1 + 1) (by omega)
  go_enter Try.func123, Try.ntmps123
  go_wp2_with fail
  refine (laws_toIntS _ h (by repeat (first | assumption | refine Sub.alloc ?_ _ | refine Sub.drew ?_)) v1 x.kids q hsm.2).mono ?_
  rintro e w1 ⟨v1', rfl, p1, hb1⟩
  obtain ⟨a0, c0, rfl, -⟩ := id p1
  have P1 := Lib.hid p1
  clear p1
  obtain ⟨kc1, kf1⟩ := bcell hb1; have kz1 := hb1.size; (try simp at kz1); (first | (refine (fun (kw1_0 : w.heap.size  < w1.heap.size) => ?_) ?_; rotate_left; omega) | skip); (first | (refine (fun (kw1_1 : w.heap.size + 1 < w1.heap.size) => ?_) ?_; rotate_left; omega) | skip); (first | (refine (fun (kw1_2 : w.heap.size + 1 + 1 < w1.heap.size) => ?_) ?_; rotate_left; omega) | skip)
  have s1 : Sub h w1 := Sub.below (by repeat (first | assumption | refine Sub.alloc ?_ _ | refine Sub.drew ?_)) hb1
  have L1 : Live h w.heap.size (ext h _ w1) w1 := Live.call (h1 := h) (by repeat (first | with_reducible assumption | exact Live.start s0 | refine Live.alloc ?_ _ | refine Live.setCell ?_ (by first | with_reducible assumption | exact (ext_old (by simp <;> omega)).trans (by first | exact n1 | exact n2 | exact n3) | exact n1 | exact n2 | exact n3) _ | (refine Live.below ?_ (by with_reducible assumption)))) hb1 (by simp <;> omega)
  go_wp2_with fail
  refine bodyPost_ret (v := .agg #[.int .i64 x.kind, .int .i64 x.n, .string x.s, .slice a0 x.kids.length c0]) (by simp [results, Try.results123, go_sem, kc1]) rfl ⟨_, rfl, ?_, ?_⟩
  · exact (SlOf.le P1.out (Live.out (B := w.heap.size) (by repeat (first | with_reducible assumption | exact Live.start s0 | refine Live.alloc ?_ _ | refine Live.setCell ?_ (by first | with_reducible assumption | exact (ext_old (by simp <;> omega)).trans (by first | exact n1 | exact n2 | exact n3) | exact n1 | exact n2 | exact n3) _ | (refine Live.below ?_ (by with_reducible assumption))))) (fun _ _ _ q => q))
  · exact (by repeat (first | with_reducible exact Below.refl _ _ | with_reducible assumption | with_reducible refine Below.setCell ?_ ?_ _ | with_reducible refine Below.alloc ?_ ?_ _ | with_reducible refine Below.drew ?_ | (with_reducible apply below_chain; with_reducible assumption) | exact Nat.le_refl _ | omega | (simp <;> omega)))
set_option maxRecDepth 100000 in
set_option maxHeartbeats 2000000 in
theorem laws_eqPNode (w : World) (x : DPNode) (h : Hp) (s0 : Sub h w) (u1 : Value) (v1 : Value) (p : pNodeRel h x u1) (q : pNodeRel h x v1) :
    Calls Try.prog 124 #[.agg #[.int .i64 x.kind, .int .i64 x.n, .string x.s, u1], .agg #[.int .i64 x.kind, .int .i64 x.n, .string x.s, v1]] w fun e w' => e = .returned (.bool true) ∧ Below w.heap.size w w' := by
  go_enter Try.func124, Try.ntmps124
  go_wp2_with fail
  refine (laws_eqIntS _ h (by repeat (first | assumption | refine Sub.alloc ?_ _ | refine Sub.drew ?_)) u1 v1 x.kids p q).mono ?_
  rintro e w1 ⟨rfl, hb1⟩
  obtain ⟨kc1, kf1⟩ := bcell hb1; have kz1 := hb1.size; (try simp at kz1); (first | (refine (fun (kw1_0 : w.heap.size  < w1.heap.size) => ?_) ?_; rotate_left; omega) | skip); (first | (refine (fun (kw1_1 : w.heap.size + 1 < w1.heap.size) => ?_) ?_; rotate_left; omega) | skip); (first | (refine (fun (kw1_2 : w.heap.size + 1 + 1 < w1.heap.size) => ?_) ?_; rotate_left; omega) | skip)
  have s1 : Sub h w1 := Sub.below (by repeat (first | assumption | refine Sub.alloc ?_ _ | refine Sub.drew ?_)) hb1
  go_wp2_with fail
  go_ret
  exact ⟨rfl, (by repeat (first | with_reducible exact Below.refl _ _ | with_reducible assumption | with_reducible refine Below.setCell ?_ ?_ _ | with_reducible refine Below.alloc ?_ ?_ _ | with_reducible refine Below.drew ?_ | (with_reducible apply below_chain; with_reducible assumption) | exact Nat.le_refl _ | omega | (simp <;> omega)))⟩
set_option maxRecDepth 100000 in
set_option maxHeartbeats 2000000 in
theorem laws_szPNodeS (w : World) (h : Hp) (hs : Sub h w) (v : Value) (xs : List DPNode) (hv : DPNodeS h v xs) (left : Int) (h0 : 0 ≤ left) (h1 : left ≤ 1048576) :
    Calls Try.prog 96 #[v, .int .i64 left] w fun e w' => SzS left (SmallS pNodeSmall xs) e ∧ Below w.heap.size w w' := by
  have hm := Lib.hid hv.mem
  have HV := Lib.hid hv
  obtain ⟨a, c, rfl, hc1, hc2, -⟩ := hv
  unfold maxLen at hc2
  by_cases hl : left < xs.length
  · go_enter Try.func96, Try.ntmps96
    go_wp2
    go_ret
    exact ⟨⟨_, rfl, by omega, by omega, by omega⟩, Below.refl _ _⟩
  · go_enter Try.func96, Try.ntmps96
    go_wp2
    go_loopw [1, 5] (fun lv i wr => ∃ (k : Nat) (r : Int), i = .int .i64 k ∧ lv = .int .i64 r ∧ k ≤ xs.length ∧ 0 ≤ r ∧ r ≤ left ∧ (∀ j (h : j < xs.length), j < k → pNodeSmall xs[j]) ∧ Below w.heap.size w wr) (fun _ i _ => xs.length - (intOf i).toNat)
    case atStart => exact ⟨0, _, rfl, rfl, by omega, by omega, by omega, fun _ _ hj => absurd hj (by omega), Below.refl _ _⟩
    case round =>
      obtain ⟨k, r, rfl, rfl, hk, hr0, hr1, hsm, hbel⟩ := hrel
      have HSm := Lib.hid hsm
      clear hsm
      by_cases hlt : k < xs.length
      · skip
        obtain ⟨b, off, rfl, hcell⟩ := HV.out.cell hlt
        obtain ⟨v1, hrel, hcs⟩ := hcell k hlt
        obtain ⟨c0, c1, c2, c3⟩ := hcs wr (hs.below hbel)
        have hok := Lib.hid (hm.out _ (List.getElem_mem hlt))
        have hsr := hs.below hbel
        clear hcell
        go_wp2_with fail
        refine (laws_szPNode _ xs[k] hok.out h hsr v1 hrel r hr0 (by omega)).mono ?_
        rintro e w1 ⟨⟨r1, rfl, u1, y1, z1⟩, hb1⟩
        have HZ := Lib.hid z1
        clear z1
        by_cases m1 : r1 < 0
        · go_wp2_with fail
          go_ret
          exact ⟨⟨_, rfl, by omega, by omega, by omega⟩, below_chain hb1 hbel hbel.size⟩
        · go_wp2_with fail
          go_roundw
          case rel => exact ⟨k + 1, r1, by go_num, rfl, by omega, by omega, by omega, fun j hj hjk => by
            rcases Nat.lt_or_ge j k with hj' | hj'
            · exact HSm.out j hj hj'
            · obtain rfl : j = k := by omega
              exact HZ.out (by omega), below_chain hb1 hbel hbel.size⟩
          case measure => simp [intOf]; omega
      · go_wp2
        go_ret
        exact ⟨⟨_, rfl, by omega, by omega, fun _ => ⟨by omega, fun j hj => HSm.out j hj (by omega)⟩⟩, hbel⟩
def pNodesPost (h : Hp) (w : World) (xs : List DPNode) (e : Ending) (w' : World) : Prop := ∃ v', e = .returned v' ∧ DPNodeS (ext h w.heap.size w') v' xs ∧ Below w.heap.size w w'
set_option maxRecDepth 100000 in
set_option maxHeartbeats 2000000 in
theorem laws_toPNodeS (w : World) (h : Hp) (hs : Sub h w) (v : Value) (xs : List DPNode) (hv : DPNodeS h v xs) (hsm : SmallS pNodeSmall xs) :
    Calls Try.prog 100 #[v] w fun e w' => pNodesPost h w xs e w' := by
  have hm := Lib.hid hv.mem
  have HV := Lib.hid hv
  have HSm := Lib.hid hsm.2
  have hl := hsm.1
  clear hsm
  obtain ⟨a, c, rfl, hc1, hc2, -⟩ := hv
  unfold maxLen at hc2
  have hlm : xs.length ≤ maxLen := by unfold maxLen; omega
  go_enter Try.func100, Try.ntmps100
  go_wp2_with (first | (at_make; refine make_n Try.underlying85 info_PNode w rfl _ _ rfl w.heap.size _ _ xs.length rfl rfl rfl rfl (by omega) hlm (Nat.le_refl _) ?_))
  intro w1 hown hb1
  have hz1 := hb1.size
  have hg : w.heap.size < w1.heap.size := (own_parts hown).2.2.2.2.2
  have HP1 := Lib.hid (Part.start (R := pNodeR) (h := h) (xs := xs) rfl (by decide) hown ((Live.start hs).below hb1) (hs.none (Nat.le_refl _)) (Nat.le_refl _))
  clear hown
  go_wp2
  go_loopw [4] (fun i wr => ∃ (k : Nat) (hc : Hp), k ≤ xs.length ∧ i = .int .i64 k ∧ Part 4 pNodeR 135 h w.heap.size w.heap.size xs wr k hc ∧ Below w.heap.size w wr) (fun i _ => xs.length - (intOf i).toNat)
  case atStart => exact ⟨0, h, by omega, rfl, HP1.out, hb1⟩
  case round =>
    obtain ⟨k, hc, hk, rfl, hpart, hbel⟩ := hrel
    by_cases hlt : k < xs.length
    · obtain ⟨rows, p1, p2, p3, p4, p5, p6, p7⟩ := hpart
      have hsub : Sub h wr := p5.sub.le p5.le
      have hgw : w.heap.size < wr.heap.size := (own_parts p3).2.2.2.2.2
      obtain ⟨b, off, rfl, hcell⟩ := HV.out.cell hlt
      obtain ⟨v1, hrel, hcs⟩ := hcell k hlt
      obtain ⟨c0, c1, c2, c3⟩ := hcs wr (hsub)
      have HP3 := Lib.hid p3
      have HP4 := Lib.hid p4
      have HP5 := Lib.hid p5
      have HP6 := Lib.hid p6
      have hok := Lib.hid (hm.out _ (List.getElem_mem hlt))
      clear hcell p3 p4 p5 p6
      go_wp2_with fail
      refine (laws_toPNode _ xs[k] h hsub v1 hrel (HSm.out k hlt)).mono ?_
      rintro e w2 ⟨v1', rfl, hq2, hb2⟩
      obtain ⟨a0, d0, rfl, -⟩ := id hq2
      have HW2 := Lib.hid (own_kept HP3.out hb2 (Nat.le_refl _))
      have hz2 := hb2.size

      obtain ⟨⟨o0, g0⟩, f0⟩ := own_cells HW2.out (k * 4) (by omega)
      obtain ⟨⟨o1, g1⟩, f1⟩ := own_cells HW2.out (k * 4 + 1) (by omega)
      obtain ⟨⟨o2, g2⟩, f2⟩ := own_cells HW2.out (k * 4 + 2) (by omega)
      obtain ⟨⟨o3, g3⟩, f3⟩ := own_cells HW2.out (k * 4 + 3) (by omega)
      have HQ := Lib.hid hq2
      clear hq2
      have HLE := Lib.hid (ext_le (w' := w2) HP5.out.sub (Nat.le_refl _))
      have HL := Lib.hid (HP5.out.call hb2 (by omega))
      have HG := Lib.hid (show ext hc wr.heap.size w2 w.heap.size = none from (ext_old hgw).trans HP6.out)
      have HS := Lib.hid (own_set (own_set (own_set (own_set HW2.out (k * 4) (.int .i64 xs[k].kind)) (k * 4 + 1) (.int .i64 xs[k].n)) (k * 4 + 2) (.string xs[k].s)) (k * 4 + 3) (.slice a0 xs[k].kids.length d0))
      go_wp2_with fail
      go_roundw
      case rel => exact ⟨k + 1, _, by omega, by go_num, Part.lay [.int .i64 xs[k].kind, .int .i64 xs[k].n, .string xs[k].s, .slice a0 xs[k].kids.length d0] p1 p2 rfl HS.out HP4.out HLE.out (fun _ _ => pNodeR_mono HLE.out) hlt ⟨_, rfl, hok.out, pNodeRel_mono (ext_mono HP5.out.le) HQ.out⟩ ((((HL.out.setCell HG.out _).setCell HG.out _).setCell HG.out _).setCell HG.out _) HG.out p7, (((((below_chain hb2 hbel hbel.size).setCell (Nat.le_refl _) _).setCell (Nat.le_refl _) _).setCell (Nat.le_refl _) _).setCell (Nat.le_refl _) _)⟩
      case measure => simp [intOf]; omega
    · obtain rfl : k = xs.length := by omega
      have HO := Lib.hid (Part.done (R := pNodeR) (fun _ _ _ _ l q => pNodeR_mono l q) hpart)
      clear hpart
      go_wp2
      go_ret
      exact ⟨_, rfl, HO.out, hbel⟩
set_option maxRecDepth 100000 in
set_option maxHeartbeats 2000000 in
theorem laws_eqPNodeS (w : World) (h : Hp) (hs : Sub h w) (u v : Value) (xs : List DPNode) (hu : DPNodeS h u xs) (hv : DPNodeS h v xs) :
    Calls Try.prog 105 #[u, v] w fun e w' => e = .returned (.bool true) ∧ Below w.heap.size w w' := by
  have HU := Lib.hid hu
  have HV := Lib.hid hv
  obtain ⟨a, c, rfl, hc1, hc2, -⟩ := hu
  obtain ⟨a', c', rfl, hc1', hc2', -⟩ := hv
  unfold maxLen at hc2 hc2'
  go_enter Try.func105, Try.ntmps105
  go_wp2
  go_loopw [5] (fun i wr => ∃ k : Nat, k ≤ xs.length ∧ i = .int .i64 k ∧ Below w.heap.size w wr) (fun i _ => xs.length - (intOf i).toNat)
  case atStart => exact ⟨0, by omega, rfl, Below.refl _ _⟩
  case round =>
    obtain ⟨k, hk, rfl, hbel⟩ := hrel
    by_cases hlt : k < xs.length
    · skip
      obtain ⟨b, off, rfl, hcell⟩ := HU.out.cell hlt
      obtain ⟨v1, hrel, hcs⟩ := hcell k hlt
      obtain ⟨c0, c1, c2, c3⟩ := hcs wr (hs.below hbel)
      obtain ⟨b', off', rfl, hcell'⟩ := HV.out.cell hlt
      obtain ⟨v1', hrel', hcs'⟩ := hcell' k hlt
      obtain ⟨d0, d1, d2, d3⟩ := hcs' wr (hs.below hbel)
      have HSr := Lib.hid (hs.below hbel)
      clear hcell hcell'
      go_wp2_with fail
      go_region_law (first | (refine step_guard rfl ?_; go_simp; go_at_call 124; refine (laws_eqPNode _ xs[k] h HSr.out.drew v1 v1' hrel hrel').mono ?_; rintro e w2 ⟨rfl, hb2⟩; dsimp only; replace hb2 := below_undrew hb2))
      all_goals
        go_wp2
        all_goals
          refine ⟨⟨k + 1, by omega, by go_num, below_chain hb2 hbel hbel.size⟩, ?_⟩
          simp [intOf]; omega
    · go_wp2
      go_ret
      exact ⟨rfl, hbel⟩
theorem cells_sPNode : Try.prog.cellsOf 94 = 1 := by kernel_rfl
theorem rd_PNodeS {H : Type} {enc : TypeId × Value → H} {W : World} {n : Nat} {cs : List Value} {x : DataW H × List MemPlace} (h : Rd enc Try.prog W n 94 cs x) : ∃ v xs, cs = [v] ∧ DPNodeS (hp W) v xs :=
  rd_slice 4 pNodeR Try.underlying94 cells_PNode (by decide) (fun n cs' y hy => rd_PNode hy) h
end Go.Proofs.Ythmedgipfdoneaa

/- Data Pat: how they are read; sizes, copies, comparisons. Printed by gendata.py. -/
namespace Go.Proofs.Ythmedgipfdoneaa
set_option linter.unusedVariables false
set_option linter.unusedSimpArgs false
open Go.RowKit Go.ChangeShapes Go.WideShapes
def patOk (x : List DPNode) : Prop := True
def patSmall (x : List DPNode) : Prop := SmallS pNodeSmall x
def patRel (h : Hp) (x : List DPNode) (v1 : Value) : Prop := SlOf 4 pNodeR h v1 x
def patR (h : Hp) (r : List Value) (x : List DPNode) : Prop := ∃ v1 : Value, r = [v1] ∧ patOk x ∧ patRel h x v1
theorem patRel_mono {h h' : Hp} {x : List DPNode} {v1 : Value} (l : HLe h h') (q : patRel h x v1) : patRel h' x v1 :=
  SlOf.le q l (fun _ _ _ q => pNodeR_mono l q)
theorem patR_mono {h h' : Hp} {r : List Value} {x : List DPNode} (l : HLe h h') (q : patR h r x) : patR h' r x :=
  let ⟨v1, a, b, c⟩ := q; ⟨v1, a, b, patRel_mono l c⟩
abbrev DPatS (h : Hp) (v : Value) (xs : List (List DPNode)) : Prop := SlOf 1 patR h v xs
theorem DPatS.mono {h h' : Hp} {v : Value} {xs : List (List DPNode)} (q : DPatS h v xs) (l : HLe h h') : DPatS h' v xs := SlOf.le q l fun _ _ _ q => patR_mono l q
theorem DPatS.mem {h : Hp} {v : Value} {xs : List (List DPNode)} (q : DPatS h v xs) : ∀ x ∈ xs, patOk x := by
  obtain ⟨a, c, _, _, _, r⟩ := q
  intro x hx
  rcases r with rfl | ⟨b, off, _, hc⟩
  · cases hx
  · obtain ⟨i, hi, rfl⟩ := List.getElem_of_mem hx
    obtain ⟨_, _, _, hr⟩ := hc i hi
    exact let ⟨_, _, b, _⟩ := hr; b
theorem DPatS.cell {h : Hp} {a : Option Addr} {n c : Nat} {xs : List (List DPNode)} (q : DPatS h (.slice a n c) xs) {i : Nat} (hi : i < xs.length) :
    ∃ b off, a = some ⟨b, off, none⟩ ∧ ∀ j (hj : j < xs.length), ∃ v1 : Value, patRel h xs[j] v1 ∧ ∀ w : World, Sub h w → w.cell? ⟨b, off + j, none⟩ = some (v1) := by
  obtain ⟨a', c', e, _, _, r⟩ := q
  injection e with e1 e2 e3
  subst e1
  rcases r with rfl | ⟨b, off, ea, hc⟩
  · simp at hi
  · refine ⟨b, off, ea, fun j hj => ?_⟩
    obtain ⟨r, hr1, hr2, hr3⟩ := hc j hj
    obtain ⟨v1, e, _, hr⟩ := hr3
    rw [e] at hr2
    refine ⟨v1, hr, fun w hw => ?_⟩
    rw [Nat.mul_one] at hr2
    exact hr2.cell hw (i := 0) (by simp)
theorem cells_Pat : Try.prog.cellsOf 96 = 1 := by kernel_rfl
theorem cells_sPNode_of_Pat : Try.prog.cellsOf 94 = 1 := by kernel_rfl
theorem tlen_Pat {cs : List Value} (h : cs.length = 1) : ∃ c0 : Value, cs = [c0] := by
  match cs, h with
  | [c0], _ => exact ⟨c0, rfl⟩
theorem rd_Pat {H : Type} {enc : TypeId × Value → H} {W : World} {n : Nat} {cs : List Value} {x : DataW H × List MemPlace} (h : Rd enc Try.prog W n 96 cs x) : ∃ t : List DPNode, patR (hp W) cs t := by
  obtain ⟨hl, m, hf⟩ := rd_fields Try.underlying96 h
  rw [cells_Pat] at hl
  obtain ⟨c0, rfl⟩ := tlen_Pat hl
  simp only [List.forall_mem_cons, cells_sPNode_of_Pat] at hf
  obtain ⟨⟨_, h0⟩, _⟩ := hf
  obtain ⟨v1, k0, e0, z0⟩ := rd_PNodeS h0
  simp at e0
  subst e0
  exact ⟨k0, _, rfl, trivial, z0⟩
theorem info_Pat : (Try.prog.info? 87).map (fun i => (i.zero, i.size, i.bytes)) = some (some (.agg #[.slice none 0 0]), 1, 24) := by kernel_rfl
set_option maxRecDepth 100000 in
set_option maxHeartbeats 2000000 in
theorem laws_szPat (w : World) (x : List DPNode) (hx : patOk x) (h : Hp) (s0 : Sub h w) (v1 : Value) (q : patRel h x v1) (left : Int) (h0 : 0 ≤ left) (h1 : left ≤ 1048576) :
    Calls Try.prog 52 #[.agg #[v1], .int .i64 left] w fun e w' => SzS left (patSmall x) e ∧ Below w.heap.size w w' := by
  unfold patOk at hx
  try unfold maxLen at hx
  unfold patSmall
  go_enter Try.func52, Try.ntmps52
  go_wp2_with fail
  refine (laws_szPNodeS _ h (by repeat (first | assumption | refine Sub.alloc ?_ _ | refine Sub.drew ?_)) v1 x q left (by omega) (by omega)).mono ?_
  rintro e w1 ⟨⟨r1, rfl, u1, y1, z1⟩, hb1⟩
  obtain ⟨kc1, kf1⟩ := bcell hb1; have kz1 := hb1.size; (try simp at kz1); (first | (refine (fun (kw1_0 : w.heap.size  < w1.heap.size) => ?_) ?_; rotate_left; omega) | skip); (first | (refine (fun (kw1_1 : w.heap.size + 1 < w1.heap.size) => ?_) ?_; rotate_left; omega) | skip); (first | (refine (fun (kw1_2 : w.heap.size + 1 + 1 < w1.heap.size) => ?_) ?_; rotate_left; omega) | skip)
  have s1 : Sub h w1 := Sub.below (by repeat (first | assumption | refine Sub.alloc ?_ _ | refine Sub.drew ?_)) hb1
  by_cases m1 : r1 < 0
  · go_wp2_with fail
    go_ret
    exact ⟨⟨_, rfl, by omega, by omega, by omega⟩, (by repeat (first | with_reducible exact Below.refl _ _ | with_reducible assumption | with_reducible refine Below.setCell ?_ ?_ _ | with_reducible refine Below.alloc ?_ ?_ _ | with_reducible refine Below.drew ?_ | (with_reducible apply below_chain; with_reducible assumption) | exact Nat.le_refl _ | omega | (simp <;> omega)))⟩
  ·
    go_wp2_with fail
    go_ret
    exact ⟨⟨_, rfl, by omega, by omega, fun _ => z1 (by omega)⟩, (by repeat (first | with_reducible exact Below.refl _ _ | with_reducible assumption | with_reducible refine Below.setCell ?_ ?_ _ | with_reducible refine Below.alloc ?_ ?_ _ | with_reducible refine Below.drew ?_ | (with_reducible apply below_chain; with_reducible assumption) | exact Nat.le_refl _ | omega | (simp <;> omega)))⟩
def patPost (h : Hp) (w : World) (x : List DPNode) (e : Ending) (w' : World) : Prop := ∃ v1' : Value, e = .returned (.agg #[v1']) ∧ patRel (ext h w.heap.size w') x v1' ∧ Below w.heap.size w w'
set_option maxRecDepth 100000 in
set_option maxHeartbeats 2000000 in
theorem laws_toPat (w : World) (x : List DPNode) (h : Hp) (s0 : Sub h w) (v1 : Value) (q : patRel h x v1) (hsm : patSmall x) :
    Calls Try.prog 59 #[.agg #[v1]] w fun e w' => patPost h w x e w' := by
  unfold patSmall at hsm
  have n1 := s0.none (b := w.heap.size) (by omega)
  have n2 := s0.none (b := w.heap.size + 1) (by omega)
  have n3 := s0.none (b := w.heap.size + 1 + 1) (by omega)
  go_enter Try.func59, Try.ntmps59
  go_wp2_with fail
  refine (laws_toPNodeS _ h (by repeat (first | assumption | refine Sub.alloc ?_ _ | refine Sub.drew ?_)) v1 x q hsm).mono ?_
  rintro e w1 ⟨v1', rfl, p1, hb1⟩
  obtain ⟨a0, c0, rfl, -⟩ := id p1
  have P1 := Lib.hid p1
  clear p1
  obtain ⟨kc1, kf1⟩ := bcell hb1; have kz1 := hb1.size; (try simp at kz1); (first | (refine (fun (kw1_0 : w.heap.size  < w1.heap.size) => ?_) ?_; rotate_left; omega) | skip); (first | (refine (fun (kw1_1 : w.heap.size + 1 < w1.heap.size) => ?_) ?_; rotate_left; omega) | skip); (first | (refine (fun (kw1_2 : w.heap.size + 1 + 1 < w1.heap.size) => ?_) ?_; rotate_left; omega) | skip)
  have s1 : Sub h w1 := Sub.below (by repeat (first | assumption | refine Sub.alloc ?_ _ | refine Sub.drew ?_)) hb1
  have L1 : Live h w.heap.size (ext h _ w1) w1 := Live.call (h1 := h) (by repeat (first | with_reducible assumption | exact Live.start s0 | refine Live.alloc ?_ _ | refine Live.setCell ?_ (by first | with_reducible assumption | exact (ext_old (by simp <;> omega)).trans (by first | exact n1 | exact n2 | exact n3) | exact n1 | exact n2 | exact n3) _ | (refine Live.below ?_ (by with_reducible assumption)))) hb1 (by simp <;> omega)
  go_wp2_with fail
  refine bodyPost_ret (v := .agg #[.slice a0 x.length c0]) (by simp [results, Try.results59, go_sem, kc1]) rfl ⟨_, rfl, ?_, ?_⟩
  · exact (SlOf.le P1.out (Live.out (B := w.heap.size) (by repeat (first | with_reducible assumption | exact Live.start s0 | refine Live.alloc ?_ _ | refine Live.setCell ?_ (by first | with_reducible assumption | exact (ext_old (by simp <;> omega)).trans (by first | exact n1 | exact n2 | exact n3) | exact n1 | exact n2 | exact n3) _ | (refine Live.below ?_ (by with_reducible assumption))))) (fun _ _ _ q => pNodeR_mono (Live.out (B := w.heap.size) (by repeat (first | with_reducible assumption | exact Live.start s0 | refine Live.alloc ?_ _ | refine Live.setCell ?_ (by first | with_reducible assumption | exact (ext_old (by simp <;> omega)).trans (by first | exact n1 | exact n2 | exact n3) | exact n1 | exact n2 | exact n3) _ | (refine Live.below ?_ (by with_reducible assumption))))) q))
  · exact (by repeat (first | with_reducible exact Below.refl _ _ | with_reducible assumption | with_reducible refine Below.setCell ?_ ?_ _ | with_reducible refine Below.alloc ?_ ?_ _ | with_reducible refine Below.drew ?_ | (with_reducible apply below_chain; with_reducible assumption) | exact Nat.le_refl _ | omega | (simp <;> omega)))
set_option maxRecDepth 100000 in
set_option maxHeartbeats 2000000 in
theorem laws_eqPat (w : World) (x : List DPNode) (h : Hp) (s0 : Sub h w) (u1 : Value) (v1 : Value) (p : patRel h x u1) (q : patRel h x v1) :
    Calls Try.prog 69 #[.agg #[u1], .agg #[v1]] w fun e w' => e = .returned (.bool true) ∧ Below w.heap.size w w' := by
  go_enter Try.func69, Try.ntmps69
  go_wp2_with fail
  refine (laws_eqPNodeS _ h (by repeat (first | assumption | refine Sub.alloc ?_ _ | refine Sub.drew ?_)) u1 v1 x p q).mono ?_
  rintro e w1 ⟨rfl, hb1⟩
  obtain ⟨kc1, kf1⟩ := bcell hb1; have kz1 := hb1.size; (try simp at kz1); (first | (refine (fun (kw1_0 : w.heap.size  < w1.heap.size) => ?_) ?_; rotate_left; omega) | skip); (first | (refine (fun (kw1_1 : w.heap.size + 1 < w1.heap.size) => ?_) ?_; rotate_left; omega) | skip); (first | (refine (fun (kw1_2 : w.heap.size + 1 + 1 < w1.heap.size) => ?_) ?_; rotate_left; omega) | skip)
  have s1 : Sub h w1 := Sub.below (by repeat (first | assumption | refine Sub.alloc ?_ _ | refine Sub.drew ?_)) hb1
  go_wp2_with fail
  go_ret
  exact ⟨rfl, (by repeat (first | with_reducible exact Below.refl _ _ | with_reducible assumption | with_reducible refine Below.setCell ?_ ?_ _ | with_reducible refine Below.alloc ?_ ?_ _ | with_reducible refine Below.drew ?_ | (with_reducible apply below_chain; with_reducible assumption) | exact Nat.le_refl _ | omega | (simp <;> omega)))⟩
set_option maxRecDepth 100000 in
set_option maxHeartbeats 2000000 in
theorem laws_szPatS (w : World) (h : Hp) (hs : Sub h w) (v : Value) (xs : List (List DPNode)) (hv : DPatS h v xs) (left : Int) (h0 : 0 ≤ left) (h1 : left ≤ 1048576) :
    Calls Try.prog 19 #[v, .int .i64 left] w fun e w' => SzS left (SmallS patSmall xs) e ∧ Below w.heap.size w w' := by
  have hm := Lib.hid hv.mem
  have HV := Lib.hid hv
  obtain ⟨a, c, rfl, hc1, hc2, -⟩ := hv
  unfold maxLen at hc2
  by_cases hl : left < xs.length
  · go_enter Try.func19, Try.ntmps19
    go_wp2
    go_ret
    exact ⟨⟨_, rfl, by omega, by omega, by omega⟩, Below.refl _ _⟩
  · go_enter Try.func19, Try.ntmps19
    go_wp2
    go_loopw [1, 5] (fun lv i wr => ∃ (k : Nat) (r : Int), i = .int .i64 k ∧ lv = .int .i64 r ∧ k ≤ xs.length ∧ 0 ≤ r ∧ r ≤ left ∧ (∀ j (h : j < xs.length), j < k → patSmall xs[j]) ∧ Below w.heap.size w wr) (fun _ i _ => xs.length - (intOf i).toNat)
    case atStart => exact ⟨0, _, rfl, rfl, by omega, by omega, by omega, fun _ _ hj => absurd hj (by omega), Below.refl _ _⟩
    case round =>
      obtain ⟨k, r, rfl, rfl, hk, hr0, hr1, hsm, hbel⟩ := hrel
      have HSm := Lib.hid hsm
      clear hsm
      by_cases hlt : k < xs.length
      · skip
        obtain ⟨b, off, rfl, hcell⟩ := HV.out.cell hlt
        obtain ⟨v1, hrel, hcs⟩ := hcell k hlt
        have c0 := hcs wr (hs.below hbel)
        have hok := Lib.hid (hm.out _ (List.getElem_mem hlt))
        have hsr := hs.below hbel
        clear hcell
        go_wp2_with fail
        refine (laws_szPat _ xs[k] hok.out h hsr v1 hrel r hr0 (by omega)).mono ?_
        rintro e w1 ⟨⟨r1, rfl, u1, y1, z1⟩, hb1⟩
        have HZ := Lib.hid z1
        clear z1
        by_cases m1 : r1 < 0
        · go_wp2_with fail
          go_ret
          exact ⟨⟨_, rfl, by omega, by omega, by omega⟩, below_chain hb1 hbel hbel.size⟩
        · go_wp2_with fail
          go_roundw
          case rel => exact ⟨k + 1, r1, by go_num, rfl, by omega, by omega, by omega, fun j hj hjk => by
            rcases Nat.lt_or_ge j k with hj' | hj'
            · exact HSm.out j hj hj'
            · obtain rfl : j = k := by omega
              exact HZ.out (by omega), below_chain hb1 hbel hbel.size⟩
          case measure => simp [intOf]; omega
      · go_wp2
        go_ret
        exact ⟨⟨_, rfl, by omega, by omega, fun _ => ⟨by omega, fun j hj => HSm.out j hj (by omega)⟩⟩, hbel⟩
def patsPost (h : Hp) (w : World) (xs : List (List DPNode)) (e : Ending) (w' : World) : Prop := ∃ v', e = .returned v' ∧ DPatS (ext h w.heap.size w') v' xs ∧ Below w.heap.size w w'
set_option maxRecDepth 100000 in
set_option maxHeartbeats 2000000 in
theorem laws_toPatS (w : World) (h : Hp) (hs : Sub h w) (v : Value) (xs : List (List DPNode)) (hv : DPatS h v xs) (hsm : SmallS patSmall xs) :
    Calls Try.prog 25 #[v] w fun e w' => patsPost h w xs e w' := by
  have hm := Lib.hid hv.mem
  have HV := Lib.hid hv
  have HSm := Lib.hid hsm.2
  have hl := hsm.1
  clear hsm
  obtain ⟨a, c, rfl, hc1, hc2, -⟩ := hv
  unfold maxLen at hc2
  have hlm : xs.length ≤ maxLen := by unfold maxLen; omega
  go_enter Try.func25, Try.ntmps25
  go_wp2_with (first | (at_make; refine make_n Try.underlying29 info_Pat w rfl _ _ rfl w.heap.size _ _ xs.length rfl rfl rfl rfl (by omega) hlm (Nat.le_refl _) ?_))
  intro w1 hown hb1
  have hz1 := hb1.size
  have hg : w.heap.size < w1.heap.size := (own_parts hown).2.2.2.2.2
  have HP1 := Lib.hid (Part.start (k := 1) (R := patR) (h := h) (xs := xs) rfl Nat.one_pos (by rw [Nat.mul_one]; exact hown) ((Live.start hs).below hb1) (hs.none (Nat.le_refl _)) (Nat.le_refl _))
  clear hown
  go_wp2
  go_loopw [4] (fun i wr => ∃ (k : Nat) (hc : Hp), k ≤ xs.length ∧ i = .int .i64 k ∧ Part 1 patR 87 h w.heap.size w.heap.size xs wr k hc ∧ Below w.heap.size w wr) (fun i _ => xs.length - (intOf i).toNat)
  case atStart => exact ⟨0, h, by omega, rfl, HP1.out, hb1⟩
  case round =>
    obtain ⟨k, hc, hk, rfl, hpart, hbel⟩ := hrel
    by_cases hlt : k < xs.length
    · obtain ⟨rows, p1, p2, p3, p4, p5, p6, p7⟩ := hpart
      have hsub : Sub h wr := p5.sub.le p5.le
      have hgw : w.heap.size < wr.heap.size := (own_parts p3).2.2.2.2.2
      obtain ⟨b, off, rfl, hcell⟩ := HV.out.cell hlt
      obtain ⟨v1, hrel, hcs⟩ := hcell k hlt
      have c0 := hcs wr (hsub)
      have HP3 := Lib.hid p3
      have HP4 := Lib.hid p4
      have HP5 := Lib.hid p5
      have HP6 := Lib.hid p6
      have hok := Lib.hid (hm.out _ (List.getElem_mem hlt))
      clear hcell p3 p4 p5 p6
      go_wp2_with fail
      refine (laws_toPat _ xs[k] h hsub v1 hrel (HSm.out k hlt)).mono ?_
      rintro e w2 ⟨v1', rfl, hq2, hb2⟩
      obtain ⟨a0, d0, rfl, -⟩ := id hq2
      have HW2 := Lib.hid (own_kept HP3.out hb2 (Nat.le_refl _))
      have hz2 := hb2.size

      obtain ⟨⟨o0, g0⟩, f0⟩ := own_cells HW2.out (k) (by omega)
      have HQ := Lib.hid hq2
      clear hq2
      have HLE := Lib.hid (ext_le (w' := w2) HP5.out.sub (Nat.le_refl _))
      have HL := Lib.hid (HP5.out.call hb2 (by omega))
      have HG := Lib.hid (show ext hc wr.heap.size w2 w.heap.size = none from (ext_old hgw).trans HP6.out)
      have HS := Lib.hid (own_set HW2.out (k) (.slice a0 xs[k].length d0))
      go_wp2_with fail
      go_roundw
      case rel => exact ⟨k + 1, _, by omega, by go_num, Part.lay [.slice a0 xs[k].length d0] p1 p2 rfl (by simpa [setRow] using HS.out) HP4.out HLE.out (fun _ _ => patR_mono HLE.out) hlt ⟨_, rfl, hok.out, patRel_mono (ext_mono HP5.out.le) HQ.out⟩ (HL.out.setCell HG.out _) HG.out p7, ((below_chain hb2 hbel hbel.size).setCell (Nat.le_refl _) _)⟩
      case measure => simp [intOf]; omega
    · obtain rfl : k = xs.length := by omega
      have HO := Lib.hid (Part.done (R := patR) (fun _ _ _ _ l q => patR_mono l q) hpart)
      clear hpart
      go_wp2
      go_ret
      exact ⟨_, rfl, HO.out, hbel⟩
set_option maxRecDepth 100000 in
set_option maxHeartbeats 2000000 in
theorem laws_eqPatS (w : World) (h : Hp) (hs : Sub h w) (u v : Value) (xs : List (List DPNode)) (hu : DPatS h u xs) (hv : DPatS h v xs) :
    Calls Try.prog 34 #[u, v] w fun e w' => e = .returned (.bool true) ∧ Below w.heap.size w w' := by
  have HU := Lib.hid hu
  have HV := Lib.hid hv
  obtain ⟨a, c, rfl, hc1, hc2, -⟩ := hu
  obtain ⟨a', c', rfl, hc1', hc2', -⟩ := hv
  unfold maxLen at hc2 hc2'
  go_enter Try.func34, Try.ntmps34
  go_wp2
  go_loopw [5] (fun i wr => ∃ k : Nat, k ≤ xs.length ∧ i = .int .i64 k ∧ Below w.heap.size w wr) (fun i _ => xs.length - (intOf i).toNat)
  case atStart => exact ⟨0, by omega, rfl, Below.refl _ _⟩
  case round =>
    obtain ⟨k, hk, rfl, hbel⟩ := hrel
    by_cases hlt : k < xs.length
    · skip
      obtain ⟨b, off, rfl, hcell⟩ := HU.out.cell hlt
      obtain ⟨v1, hrel, hcs⟩ := hcell k hlt
      have c0 := hcs wr (hs.below hbel)
      obtain ⟨b', off', rfl, hcell'⟩ := HV.out.cell hlt
      obtain ⟨v1', hrel', hcs'⟩ := hcell' k hlt
      have d0 := hcs' wr (hs.below hbel)
      have HSr := Lib.hid (hs.below hbel)
      clear hcell hcell'
      go_wp2_with fail
      go_region_law (first | (refine step_guard rfl ?_; go_simp; go_at_call 69; refine (laws_eqPat _ xs[k] h HSr.out.drew v1 v1' hrel hrel').mono ?_; rintro e w2 ⟨rfl, hb2⟩; dsimp only; replace hb2 := below_undrew hb2))
      all_goals
        go_wp2
        all_goals
          refine ⟨⟨k + 1, by omega, by go_num, below_chain hb2 hbel hbel.size⟩, ?_⟩
          simp [intOf]; omega
    · go_wp2
      go_ret
      exact ⟨rfl, hbel⟩
theorem cells_sPat : Try.prog.cellsOf 23 = 1 := by kernel_rfl
theorem rd_PatS {H : Type} {enc : TypeId × Value → H} {W : World} {n : Nat} {cs : List Value} {x : DataW H × List MemPlace} (h : Rd enc Try.prog W n 23 cs x) : ∃ v xs, cs = [v] ∧ DPatS (hp W) v xs :=
  rd_slice 1 patR Try.underlying23 cells_Pat (by decide) (fun n cs' y hy => rd_Pat hy) h
end Go.Proofs.Ythmedgipfdoneaa

/- Nodes in the walk's order: plain. -/
namespace Go.Proofs.Ythmedgipfdoneaa
set_option linter.unusedVariables false
/-- kids, one after another, each behind the one before. -/
def pKids (f : Nat → Option Nat) : List Int → Nat → Option Nat
  | [], next => some next
  | k :: l, next => if k = (next : Int) then (f next).bind (pKids f l) else none
/-- the place behind a node, where all below it stands in the walk's order. -/
def pEnd (ks : List (List Int)) : Nat → Nat → Option Nat
  | 0, _ => none
  | n + 1, at_ => (ks[at_]?).bind fun l => pKids (pEnd ks n) l (at_ + 1)
def walkR (ks : List (List Int)) (n : Nat) (i : Int) (m : Nat) : Option Nat := if i = (m : Int) then pEnd ks n m else none
def orderM (ks : List (List Int)) : Bool := pEnd ks ks.length 0 == some ks.length
theorem pKids_cons (ks : List (List Int)) (n : Nat) (k : Int) (l : List Int) (m : Nat) : pKids (pEnd ks n) (k :: l) m = (walkR ks n k m).bind (pKids (pEnd ks n) l) := by
  unfold walkR
  rw [pKids]
  split <;> rfl
theorem pKids_bd (f : Nat → Option Nat) (N : Nat) (hf : ∀ m e, f m = some e → m < e ∧ e ≤ N) : ∀ (l : List Int) (m e : Nat), m ≤ N → pKids f l m = some e → m ≤ e ∧ e ≤ N
  | [], m, e, hm, h => by
    have h' : some m = some e := h
    injection h' with h'; omega
  | k :: l, m, e, hm, h => by
    rw [pKids] at h
    split at h
    · cases hc : f m with
      | none => rw [hc] at h; cases h
      | some e1 =>
        rw [hc] at h
        have := hf m e1 hc
        have := pKids_bd f N hf l e1 e this.2 h
        omega
    · cases h
theorem pEnd_bd (ks : List (List Int)) : ∀ (n m e : Nat), pEnd ks n m = some e → m < e ∧ e ≤ ks.length
  | 0, m, e, h => by cases h
  | n + 1, m, e, h => by
    rw [pEnd] at h
    cases hl : ks[m]? with
    | none => rw [hl] at h; cases h
    | some l =>
      rw [hl] at h
      have hm : m < ks.length := by
        rcases Nat.lt_or_ge m ks.length with q | q
        · exact q
        · rw [List.getElem?_eq_none q] at hl; cases hl
      have := pKids_bd (pEnd ks n) ks.length (pEnd_bd ks n) l (m + 1) e hm h
      omega
theorem walkR_bd {ks : List (List Int)} {n : Nat} {i : Int} {m e : Nat} (h : walkR ks n i m = some e) : i = m ∧ m < e ∧ e ≤ ks.length := by
  unfold walkR at h
  split at h
  · rename_i hi
    have := pEnd_bd ks n m e h
    exact ⟨hi, this⟩
  · cases h
theorem pEnd_at (ks : List (List Int)) (n m : Nat) (h : m < ks.length) : pEnd ks (n + 1) m = pKids (pEnd ks n) ks[m] (m + 1) := by
  rw [pEnd, List.getElem?_eq_getElem h]; rfl
theorem pEnd_out (ks : List (List Int)) (n m : Nat) (h : ks.length ≤ m) : pEnd ks n m = none := by
  cases n with
  | zero => rfl
  | succ n => rw [pEnd, List.getElem?_eq_none h]; rfl
/-- the reference's answer. -/
def endZ (o : Option Nat) : Int := match o with | none => -1 | some e => (e : Int)
theorem endZ_len (o : Option Nat) (n : Nat) : (endZ o == (n : Int)) = (o == some n) := by
  cases o with
  | none => simp [endZ]
  | some e =>
    simp only [endZ]
    by_cases h : e = n
    · subst h; simp
    · have : ¬ (e : Int) = n := by omega
      have a : ((e : Int) == (n : Int)) = false := beq_eq_false_iff_ne.mpr this
      have b : (some e == some n) = false := beq_eq_false_iff_ne.mpr (by simpa using h)
      rw [a, b]
theorem drop_cons {α : Type} (l : List α) (j : Nat) (h : j < l.length) : l.drop j = l[j] :: l.drop (j + 1) := List.drop_eq_getElem_cons h
end Go.Proofs.Ythmedgipfdoneaa

/- inOrder over the nodes of a pattern. -/
namespace Go.Proofs.Ythmedgipfdoneaa
set_option linter.unusedVariables false
set_option linter.unusedSimpArgs false
open Go.RowKit
abbrev kidsP (xs : List DPNode) : List (List Int) := xs.map fun x => x.kids
theorem kidsP_len (xs : List DPNode) : (kidsP xs).length = xs.length := List.length_map ..
theorem kidsP_at (xs : List DPNode) (k : Nat) (h : k < xs.length) : (kidsP xs)[k]'(by simpa using h) = xs[k].kids := by simp
theorem set_selfP {w : World} {b o : Nat} {x : Value} (h : w.cell? ⟨b, o, none⟩ = some x) (y : Value) : (w.setCell ⟨b, o, none⟩ y).cell? ⟨b, o, none⟩ = some y := by
  unfold World.cell? at h
  split at h
  · rename_i c e fr he
    have hh : (w.setCell ⟨b, o, none⟩ y).heap[b]? = some (.cells (c.setIfInBounds o y) e fr) := by
      simp only [World.setCell, Array.getElem?_modify, if_true, he, Option.map_some]
      rw [if_neg (by simp)]
    unfold World.cell?
    rw [hh]
    simp only at h ⊢
    rw [if_neg (by simp)] at h ⊢
    have hlt : o < c.size := by
      rcases Nat.lt_or_ge o c.size with q | q
      · exact q
      · rw [Array.getElem?_eq_none q] at h; cases h
    simp [hlt]
  · cases h
theorem set_otherP {w : World} {b o b' o' : Nat} (y : Value) (_ : True) (h : b' ≠ b) : (w.setCell ⟨b, o, none⟩ y).cell? ⟨b', o', none⟩ = w.cell? ⟨b', o', none⟩ := by
  unfold World.cell?
  rw [Below.heap_setCell _ _ _ _ (by exact h)]
theorem beq_someP (a b : Nat) : ((a : Int) == (b : Int)) = (some a == some b) := endZ_len (some a) b
def KidQ (h : Hp) (w : World) (l : List Int) (e : Ending) (w' : World) : Prop := ∃ v, e = .returned v ∧ IntS h v l ∧ Below w.heap.size w w'
theorem pat_kids (w : World) (h : Hp) (hs : Sub h w) (v : Value) (xs : List DPNode) (hv : DPNodeS h v xs) (hl : xs.length ≤ 1000000000) (Bd : Nat) (hB : w.cell? ⟨Bd, 0, none⟩ = some v) (i : Nat) (hi : i < xs.length) :
    Calls Try.prog 92 #[.int .i64 i, .pointer (some ⟨Bd, 0, none⟩)] w fun e w' => KidQ h w xs[i].kids e w' := by
  have HV := Lib.hid hv
  obtain ⟨a, c, rfl, hc1, hc2, -⟩ := hv
  unfold maxLen at hc2
  obtain ⟨b, off, rfl, hcell⟩ := HV.out.cell hi
  obtain ⟨v1, hrel, hcs⟩ := hcell i hi
  obtain ⟨c0, c1, c2, c3⟩ := hcs w hs
  have HR := Lib.hid hrel
  clear hcell hcs hrel
  go_enter Try.func92, Try.ntmps92
  go_wp2_with fail
  go_ret
  exact ⟨_, rfl, HR.out, (by repeat (first | with_reducible exact Below.refl _ _ | with_reducible assumption | with_reducible refine Below.setCell ?_ ?_ _ | with_reducible refine Below.alloc ?_ ?_ _ | with_reducible refine Below.drew ?_ | (with_reducible apply below_chain; with_reducible assumption) | exact Nat.le_refl _ | omega | (simp <;> omega)))⟩
def WalkQ (R : Option Nat) (w0 : World) (B : Nat) (W : Value) (e : Ending) (w' : World) : Prop :=
  Below w0.heap.size w0 w' ∧ ((R = none ∧ e = .returned (.bool false)) ∨ ∃ e1 : Nat, R = some e1 ∧ e = .returned (.bool true) ∧ w'.cell? ⟨B, 0, none⟩ = some (.int .i64 e1) ∧ w'.frozen? ⟨B, 0, none⟩ = false ∧ w'.cell? ⟨B + 1, 0, none⟩ = some W)
set_option maxRecDepth 100000 in
set_option maxHeartbeats 4000000 in
theorem pat_walk (w0 : World) (v : Value) (xs : List DPNode) (hv : DPNodeS (hp w0) v xs) (hl : xs.length ≤ 1000000000) (hks : ∀ k (h : k < xs.length), xs[k].kids.length ≤ 1000000000) (Bd Bn Bk : Nat) (hB : w0.cell? ⟨Bd, 0, none⟩ = some v) (hN : w0.cell? ⟨Bn, 0, none⟩ = some (.int .i64 xs.length)) (hK : w0.cell? ⟨Bk, 0, none⟩ = some (.func (.func 92) #[] #[.pointer (some ⟨Bd, 0, none⟩)]))
    :
    ∀ (n : Nat) (w : World) (i : Int) (m : Nat) (hi : I64 i) (hb : Below w0.heap.size w0 w) (hn : xs.length - m ≤ n) (c0 : w.cell? ⟨w0.heap.size, 0, none⟩ = some (.int .i64 m)) (f0 : w.frozen? ⟨w0.heap.size, 0, none⟩ = false) (c1 : w.cell? ⟨w0.heap.size + 1, 0, none⟩ = some (.func (.func 113) #[] #[.pointer (some ⟨w0.heap.size, 0, none⟩), .pointer (some ⟨Bn, 0, none⟩), .pointer (some ⟨Bk, 0, none⟩), .pointer (some ⟨w0.heap.size + 1, 0, none⟩)])),
    Calls Try.prog 113 #[.int .i64 i, .pointer (some ⟨w0.heap.size, 0, none⟩), .pointer (some ⟨Bn, 0, none⟩), .pointer (some ⟨Bk, 0, none⟩), .pointer (some ⟨w0.heap.size + 1, 0, none⟩)] w fun e w' => WalkQ (walkR (kidsP xs) n i m) w0 w0.heap.size (.func (.func 113) #[] #[.pointer (some ⟨w0.heap.size, 0, none⟩), .pointer (some ⟨Bn, 0, none⟩), .pointer (some ⟨Bk, 0, none⟩), .pointer (some ⟨w0.heap.size + 1, 0, none⟩)]) e w' := by
  have HB := Lib.hid hB
  have HVV := Lib.hid hv
  have hBk : Bk < w0.heap.size := World.block_lt_of_cell? _ _ hK
  have hBn : Bn < w0.heap.size := World.block_lt_of_cell? _ _ hN
  clear hB hv
  have out : ∀ (n : Nat) (w : World) (i : Int) (m : Nat) (hi : I64 i) (hb : Below w0.heap.size w0 w) (c0 : w.cell? ⟨w0.heap.size, 0, none⟩ = some (.int .i64 m)) (hbad : ¬ (i = (m : Int) ∧ m < xs.length)),
      Calls Try.prog 113 #[.int .i64 i, .pointer (some ⟨w0.heap.size, 0, none⟩), .pointer (some ⟨Bn, 0, none⟩), .pointer (some ⟨Bk, 0, none⟩), .pointer (some ⟨w0.heap.size + 1, 0, none⟩)] w fun e w' => WalkQ (walkR (kidsP xs) n i m) w0 w0.heap.size (.func (.func 113) #[] #[.pointer (some ⟨w0.heap.size, 0, none⟩), .pointer (some ⟨Bn, 0, none⟩), .pointer (some ⟨Bk, 0, none⟩), .pointer (some ⟨w0.heap.size + 1, 0, none⟩)]) e w' := by
    intro n w i m hi hb c0 hbad
    unfold I64 at hi
    have kN := cell_kept hb hN
    have HR : walkR (kidsP xs) n i m = none := by
      unfold walkR
      split
      · rename_i e
        exact pEnd_out _ _ _ (by rw [kidsP_len]; rcases Nat.lt_or_ge m xs.length with q | q; exact absurd ⟨e, q⟩ hbad; exact q)
      · rfl
    rw [HR]
    clear HR
    by_cases him : i = m
    · subst him
      have hge : ¬ m < xs.length := fun q => hbad ⟨rfl, q⟩
      clear hbad
      go_enter Try.func113, Try.ntmps113
      go_wp2_with fail
      go_ret
      exact ⟨hb, .inl ⟨rfl, rfl⟩⟩
    · clear hbad
      go_enter Try.func113, Try.ntmps113
      go_wp2_with fail
      go_ret
      exact ⟨hb, .inl ⟨rfl, rfl⟩⟩
  have OUT := Lib.hid out
  clear out
  intro n
  induction n with
  | zero =>
    intro w i m hi hb hn c0 f0 c1
    exact OUT.out 0 w i m hi hb c0 (by omega)
  | succ n ih =>
    intro w i m hi hb hn c0 f0 c1
    by_cases hin : i = (m : Int) ∧ m < xs.length
    · obtain ⟨him, hlt⟩ := hin
      subst him
      have kN := cell_kept hb hN
      have kK := cell_kept hb hK
      have IH := Lib.hid ih
      have HR : walkR (kidsP xs) (n + 1) m m = pKids (pEnd (kidsP xs) n) xs[m].kids (m + 1) := by
        unfold walkR
        rw [if_pos rfl, pEnd_at _ _ _ (by rw [kidsP_len]; exact hlt), kidsP_at xs m hlt]
      obtain ⟨R, hR⟩ : ∃ R, walkR (kidsP xs) (n + 1) m m = R := ⟨_, rfl⟩
      rw [hR]
      rw [hR] at HR
      have HRR := Lib.hid HR
      clear hR HR ih
      have hb1 := hb.setCell (p := ⟨w0.heap.size, 0, none⟩) (Nat.le_refl _) (.int .i64 ((m : Int) + 1))
      have KK := Lib.hid (pat_kids _ (hp w0) ((Sub.self w0).below hb1) v xs HVV.out hl Bd (cell_kept hb1 HB.out) m hlt)
      have HB1 := Lib.hid hb1
      have hx : w0.heap.size < w.heap.size := World.block_lt_of_cell? _ _ c0
      have hxx : w0.heap.size + 1 < w.heap.size := World.block_lt_of_cell? _ _ c1
      clear hb1
      go_enter Try.func113, Try.ntmps113
      go_wp2_with fail
      refine KK.out.mono ?_
      rintro e w1 ⟨v1, rfl, hv1, hb2⟩
      have d0 : w1.cell? ⟨w0.heap.size, 0, none⟩ = some (.int .i64 ((m + 1 : Nat) : Int)) := by
        rw [(bcell hb2).1 _ _ (by simp <;> omega)]; exact set_selfP c0 _
      have d1 : w1.frozen? ⟨w0.heap.size, 0, none⟩ = false := by
        rw [(bcell hb2).2 _ _ (by simp <;> omega)]; exact (World.frozen?_setCell _ _ _ _).trans f0
      have d2 : w1.cell? ⟨w0.heap.size + 1, 0, none⟩ = some (.func (.func 113) #[] #[.pointer (some ⟨w0.heap.size, 0, none⟩), .pointer (some ⟨Bn, 0, none⟩), .pointer (some ⟨Bk, 0, none⟩), .pointer (some ⟨w0.heap.size + 1, 0, none⟩)]) := by
        rw [(bcell hb2).1 _ _ (by simp <;> omega)]; exact (set_otherP _ trivial (by omega)).trans c1
      have hb3 := below_chain hb2 HB1.out HB1.out.size
      clear c0 f0 c1 kN kK
      have HV1 := Lib.hid hv1
      have hm1 := Lib.hid hv1.mem
      obtain ⟨a, c, rfl, hc1, hc2, -⟩ := hv1
      unfold maxLen at hc2
      have hll : xs[m].kids.length ≤ 1000000000 := hks m hlt
      have HB3 := Lib.hid hb3
      have D0 := Lib.hid d0
      have D1 := Lib.hid d1
      have D2 := Lib.hid d2
      clear hb3 d0 d1 d2
      go_wp2_with fail
      go_loopw [8, 23] (fun q i wr => ∃ (j cur : Nat), j ≤ xs[m].kids.length ∧ i = .int .i64 j ∧ m < cur ∧ pKids (pEnd (kidsP xs) n) (xs[m].kids.drop j) cur = R ∧ wr.cell? ⟨w0.heap.size, 0, none⟩ = some (.int .i64 cur) ∧ wr.frozen? ⟨w0.heap.size, 0, none⟩ = false ∧ wr.cell? ⟨w0.heap.size + 1, 0, none⟩ = some (.func (.func 113) #[] #[.pointer (some ⟨w0.heap.size, 0, none⟩), .pointer (some ⟨Bn, 0, none⟩), .pointer (some ⟨Bk, 0, none⟩), .pointer (some ⟨w0.heap.size + 1, 0, none⟩)]) ∧ Below w0.heap.size w0 wr) (fun _ i _ => xs[m].kids.length - (intOf i).toNat)
      case atStart => exact ⟨0, m + 1, by omega, rfl, by omega, by rw [HRR.out]; rfl, D0.out, D1.out, D2.out, HB3.out⟩
      case round =>
        obtain ⟨j, cur, hj, rfl, hcur, hp, g0, g1, g2, hbel⟩ := hrel
        have HP := Lib.hid hp
        clear hp
        by_cases hjl : j < xs[m].kids.length
        · obtain ⟨b, off, rfl, hcell⟩ := HV1.out.cell hjl
          have hc := hcell j hjl wr ((Sub.self w0).below hbel)
          have hki := Lib.hid (hm1.out _ (List.getElem_mem hjl))
          have KI := Lib.hid (IH.out wr xs[m].kids[j] cur hki.out hbel (by omega) g0 g1 g2)
          have HQ : (walkR (kidsP xs) n xs[m].kids[j] cur).bind (pKids (pEnd (kidsP xs) n) (xs[m].kids.drop (j + 1))) = R := by
            rw [← HP.out, drop_cons _ j hjl, pKids_cons]
          have HQQ := Lib.hid HQ
          clear HQ hcell g0 g1
          go_wp2_with fail
          refine KI.out.mono ?_
          rintro e w2 ⟨hb4, (⟨hn1, rfl⟩ | ⟨e1, hs1, rfl, g0', g1', g2'⟩)⟩
          · have HE : R = none := by rw [← HQQ.out, hn1]; rfl
            have HEE := Lib.hid HE
            clear HE hn1
            go_wp2_with fail
            go_ret
            exact ⟨hb4, .inl ⟨HEE.out, rfl⟩⟩
          · have hgt := walkR_bd hs1
            have HE : pKids (pEnd (kidsP xs) n) (xs[m].kids.drop (j + 1)) e1 = R := by rw [← HQQ.out, hs1]; rfl
            have HEE := Lib.hid HE
            have G0 := Lib.hid g0'
            have G1 := Lib.hid g1'
            have G2 := Lib.hid g2'
            clear HE hs1 g0' g1' g2'
            go_wp2_with fail
            refine ⟨⟨j + 1, e1, by omega, by go_num, by omega, HEE.out, G0.out, G1.out, G2.out, hb4⟩, ?_⟩
            simp [intOf]; omega
        · have HE : R = some cur := by
            rw [← HP.out, List.drop_eq_nil_of_le (by omega)]; rfl
          have HEE := Lib.hid HE
          have G0 := Lib.hid g0
          have G1 := Lib.hid g1
          have G2 := Lib.hid g2
          clear HE g0 g1 g2
          go_wp2_with fail
          go_ret
          exact ⟨hbel, .inr ⟨cur, HEE.out, rfl, G0.out, G1.out, G2.out⟩⟩
    · exact OUT.out (n + 1) w i m hi hb c0 hin

set_option maxRecDepth 100000 in
set_option maxHeartbeats 4000000 in
theorem pat_inOrder (w : World) (v : Value) (xs : List DPNode) (hv : DPNodeS (hp w) v xs) (hl : xs.length ≤ 1000000000) (hks : ∀ k (h : k < xs.length), xs[k].kids.length ≤ 1000000000) (Bd : Nat) (hB : w.cell? ⟨Bd, 0, none⟩ = some v) :
    Calls Try.prog 81 #[.int .i64 xs.length, .func (.func 92) #[] #[.pointer (some ⟨Bd, 0, none⟩)]] w fun e w' => e = .returned (.bool (orderM (kidsP xs))) ∧ Below w.heap.size w w' := by
  obtain ⟨w0, hw0⟩ : ∃ w0, w0 = (w.alloc (.cells #[.int .i64 xs.length] 3)).alloc (.cells #[.func (.func 92) #[] #[.pointer (some ⟨Bd, 0, none⟩)]] 126) := ⟨_, rfl⟩
  have hBd : Bd < w.heap.size := World.block_lt_of_cell? _ _ hB
  have b0 : Below w.heap.size w w0 := by rw [hw0]; exact (by repeat (first | with_reducible exact Below.refl _ _ | with_reducible assumption | with_reducible refine Below.setCell ?_ ?_ _ | with_reducible refine Below.alloc ?_ ?_ _ | with_reducible refine Below.drew ?_ | (with_reducible apply below_chain; with_reducible assumption) | exact Nat.le_refl _ | omega | (simp <;> omega)))
  have z0 : w0.heap.size = w.heap.size + 1 + 1 := by rw [hw0]; simp
  have n0 : w0.cell? ⟨w.heap.size, 0, none⟩ = some (.int .i64 xs.length) := by rw [hw0]; exact cell_kept ((Below.refl _ _).alloc (Nat.le_refl _) _) (new_cell0 _ _ _)
  have n1 : w0.cell? ⟨w.heap.size + 1, 0, none⟩ = some (.func (.func 92) #[] #[.pointer (some ⟨Bd, 0, none⟩)]) := by
    have q := new_cell0 (w.alloc (.cells #[.int .i64 xs.length] 3)) (.func (.func 92) #[] #[.pointer (some ⟨Bd, 0, none⟩)]) 126
    rw [hw0]
    rwa [show (w.alloc (.cells #[.int .i64 xs.length] 3)).heap.size = w.heap.size + 1 by simp] at q
  have q0 : (w0.alloc (.cells #[.int .i64 0] 3)).heap.size = w0.heap.size + 1 := by simp
  have m0 := cell_kept ((Below.refl (w0.alloc (.cells #[.int .i64 0] 3)).heap.size _).alloc (Nat.le_refl _) (.cells #[.func (.func 113) #[] #[.pointer (some ⟨w0.heap.size, 0, none⟩), .pointer (some ⟨w.heap.size, 0, none⟩), .pointer (some ⟨w.heap.size + 1, 0, none⟩), .pointer (some ⟨w0.heap.size + 1, 0, none⟩)]] 59)) (new_cell0 w0 (.int .i64 0) 3)
  have m1 := new_cell0 (w0.alloc (.cells #[.int .i64 0] 3)) (.func (.func 113) #[] #[.pointer (some ⟨w0.heap.size, 0, none⟩), .pointer (some ⟨w.heap.size, 0, none⟩), .pointer (some ⟨w.heap.size + 1, 0, none⟩), .pointer (some ⟨w0.heap.size + 1, 0, none⟩)]) 59
  rw [q0] at m1
  have KW := pat_walk w0 v xs (hv.mono ((Sub.self w).below b0).hle) hl hks Bd w.heap.size (w.heap.size + 1) (cell_kept b0 hB) n0 n1 xs.length ((w0.alloc (.cells #[.int .i64 0] 3)).alloc (.cells #[.func (.func 113) #[] #[.pointer (some ⟨w0.heap.size, 0, none⟩), .pointer (some ⟨w.heap.size, 0, none⟩), .pointer (some ⟨w.heap.size + 1, 0, none⟩), .pointer (some ⟨w0.heap.size + 1, 0, none⟩)]] 59)) 0 0 (by unfold I64; omega) (((Below.refl _ _).alloc (Nat.le_refl _) _).alloc (by simp) _) (by omega) m0 ((frozen?_alloc_cells _ _ _ _).trans ((frozen?_alloc_cells _ _ _ _).trans (by unfold World.frozen?; rw [Array.getElem?_eq_none (Nat.le_refl _)]))) m1
  have hR : walkR (kidsP xs) xs.length 0 0 = pEnd (kidsP xs) xs.length 0 := by unfold walkR; rw [if_pos (by rfl)]
  rw [hR] at KW
  obtain ⟨R, hR2⟩ : ∃ R, pEnd (kidsP xs) xs.length 0 = R := ⟨_, rfl⟩
  have hM : orderM (kidsP xs) = (R == some xs.length) := by
    rw [← hR2]
    unfold orderM
    rw [kidsP_len]
  rw [hM]
  rw [hR2] at KW
  rw [hw0] at KW b0 n0
  have N0 := Lib.hid n0
  have hBN : w.heap.size < w.heap.size + 1 + 1 := by omega
  rw [show ((w.alloc (.cells #[.int .i64 xs.length] 3)).alloc (.cells #[.func (.func 92) #[] #[.pointer (some ⟨Bd, 0, none⟩)]] 126)).heap.size = w.heap.size + 1 + 1 by simp] at KW
  have HK := Lib.hid KW
  have HB0 := Lib.hid b0
  clear KW m0 m1 q0 n0 n1 z0 b0 hM hR hR2 hv hB hks
  clear hw0
  clear w0
  go_enter Try.func81, Try.ntmps81
  go_wp2_with fail
  refine HK.out.mono ?_
  rintro e w1 ⟨hb1, (⟨hn1, rfl⟩ | ⟨e1, hs1, rfl, g0, g1, g2⟩)⟩
  · have HN := Lib.hid hn1
    clear hn1
    go_wp2_with fail
    go_ret
    exact ⟨ret_b (by rw [HN.out]; rfl), HB0.out.trans (hb1.mono (by simp <;> omega))⟩
  · have HN := Lib.hid hs1
    clear hs1
    have g3 := (hb1.cell (p := ⟨w.heap.size, 0, none⟩) (by simp <;> omega)).trans N0.out
    go_wp2_with fail
    go_ret
    exact ⟨ret_b (by rw [HN.out]; exact beq_someP e1 xs.length), HB0.out.trans (hb1.mono (by simp <;> omega))⟩
end Go.Proofs.Ythmedgipfdoneaa

/- The place behind a pattern: the reference's text. -/
namespace Go.Proofs.Ythmedgipfdoneaa
set_option linter.unusedVariables false
set_option linter.unusedSimpArgs false
open Go.RowKit
set_option maxRecDepth 100000 in
set_option maxHeartbeats 4000000 in
theorem spec_l04PEnd : ∀ (n : Nat) (w : World) (h : Hp) (hs : Sub h w) (v : Value) (xs : List DPNode) (hv : DPNodeS h v xs) (hl : xs.length ≤ 1000000000) (hks : ∀ k (h : k < xs.length), xs[k].kids.length ≤ 1000000000) (m : Nat) (hn : xs.length - m ≤ n) (hm : m ≤ 2000000000),
    Calls Try.prog 98 #[.agg #[v], .int .i64 m] w fun e w' => e = .returned (.int .i64 (endZ (pEnd (kidsP xs) n m))) ∧ Below w.heap.size w w' := by
  have out : ∀ (n : Nat) (w : World) (h : Hp) (hs : Sub h w) (v : Value) (xs : List DPNode) (hv : DPNodeS h v xs) (hl : xs.length ≤ 1000000000) (m : Nat) (hm : m ≤ 2000000000) (hge : ¬ m < xs.length),
      Calls Try.prog 98 #[.agg #[v], .int .i64 m] w fun e w' => e = .returned (.int .i64 (endZ (pEnd (kidsP xs) n m))) ∧ Below w.heap.size w w' := by
    intro n w h hs v xs hv hl m hm hge
    obtain ⟨a, c, rfl, hc1, hc2, -⟩ := hv
    unfold maxLen at hc2
    rw [pEnd_out _ _ _ (by rw [kidsP_len]; omega)]
    go_enter Try.func98, Try.ntmps98
    go_wp2_with fail
    go_ret
    exact ⟨rfl, (by repeat (first | with_reducible exact Below.refl _ _ | with_reducible assumption | with_reducible refine Below.setCell ?_ ?_ _ | with_reducible refine Below.alloc ?_ ?_ _ | with_reducible refine Below.drew ?_ | (with_reducible apply below_chain; with_reducible assumption) | exact Nat.le_refl _ | omega | (simp <;> omega)))⟩
  intro n
  induction n with
  | zero =>
    intro w h hs v xs hv hl hks m hn hm
    exact out 0 w h hs v xs hv hl m hm (by omega)
  | succ n ih =>
    intro w h hs v xs hv hl hks m hn hm
    by_cases hlt : m < xs.length
    · clear out
      have HV := Lib.hid hv
      have IH := Lib.hid ih
      obtain ⟨a, c, rfl, hc1, hc2, -⟩ := hv
      unfold maxLen at hc2
      obtain ⟨b, off, rfl, hcell⟩ := HV.out.cell hlt
      obtain ⟨v1, hrel, hcs⟩ := hcell m hlt
      obtain ⟨c0, c1, c2, c3⟩ := hcs (w.alloc (.cells #[.slice (some ⟨b, off, none⟩) xs.length c] 87)) (hs.alloc _)
      have hrel' : IntS h v1 xs[m].kids := hrel
      have HV1 := Lib.hid hrel'
      obtain ⟨a1, d1, rfl, hd1, hd2, -⟩ := hrel'
      unfold maxLen at hd2
      have hll := hks m hlt
      obtain ⟨R, hR⟩ : ∃ R, pEnd (kidsP xs) (n + 1) m = R := ⟨_, rfl⟩
      rw [hR]
      rw [pEnd_at _ _ _ (by rw [kidsP_len]; exact hlt), kidsP_at xs m hlt] at hR
      have HRR := Lib.hid hR
      have KS := Lib.hid hks
      clear hcell hcs hR ih hrel hks
      have n1 : ¬ xs.length ≤ m := by omega
      go_enter Try.func98, Try.ntmps98
      go_wp2_with fail
      go_loopw [5, 7, 22] (fun nx q i wr => ∃ (j cur : Nat), j ≤ xs[m].kids.length ∧ i = .int .i64 j ∧ nx = .int .i64 cur ∧ m < cur ∧ cur ≤ 2000000000 ∧ pKids (pEnd (kidsP xs) n) (xs[m].kids.drop j) cur = R ∧ Below (w.alloc (.cells #[.slice (some ⟨b, off, none⟩) xs.length c] 87)).heap.size (w.alloc (.cells #[.slice (some ⟨b, off, none⟩) xs.length c] 87)) wr) (fun _ _ i _ => xs[m].kids.length - (intOf i).toNat)
      case atStart => exact ⟨0, m + 1, by omega, rfl, rfl, by omega, by omega, HRR.out, Below.refl _ _⟩
      case round =>
        obtain ⟨j, cur, hj, rfl, rfl, hcur, hcur2, hp, hbel⟩ := hrel
        have hsub : Sub h wr := (hs.alloc _).below hbel
        obtain ⟨kc, kf⟩ := bcell hbel
        have kb := kc w.heap.size 0 (by simp)
        rw [new_cell0] at kb
        have hb0 := Lib.hid (below_chain hbel ((Below.refl w.heap.size w).alloc (Nat.le_refl _) _) (by simp))
        have HBel := Lib.hid hbel
        have HP := Lib.hid hp
        clear hp kc kf hbel
        by_cases hjl : j < xs[m].kids.length
        · obtain ⟨b', off', rfl, hcell⟩ := HV1.out.cell hjl
          have hc := hcell j hjl wr hsub
          obtain ⟨z, hz⟩ : ∃ z, z = xs[m].kids[j] := ⟨_, rfl⟩
          have HQ : (if z = (cur : Int) then (pEnd (kidsP xs) n cur).bind (pKids (pEnd (kidsP xs) n) (xs[m].kids.drop (j + 1))) else none) = R := by
            rw [← HP.out, drop_cons _ j hjl, hz]; rfl
          rw [← hz] at hc
          by_cases hzc : z = (cur : Int)
          · rw [if_pos hzc] at HQ
            have HQQ := Lib.hid HQ
            subst hzc
            have KI := Lib.hid (IH.out wr h hsub _ xs HV.out hl KS.out cur (by omega) hcur2)
            clear HQ hcell hz
            cases hpe : pEnd (kidsP xs) n cur with
            | none =>
              have HE := Lib.hid (show R = none by rw [← HQQ.out, hpe]; rfl)
              have HPE := Lib.hid hpe
              clear hpe
              go_wp2_with fail
              refine KI.out.mono ?_
              rw [HPE.out]
              rintro e w2 ⟨rfl, hb4⟩
              rw [show endZ none = -1 from rfl]
              go_wp2_with fail
              go_ret
              exact ⟨ret_n (by rw [HE.out]; rfl), below_chain hb4 hb0.out hb0.out.size⟩
            | some e1 =>
              have hbd := pEnd_bd _ _ _ _ hpe
              rw [kidsP_len] at hbd
              have HE := Lib.hid (show pKids (pEnd (kidsP xs) n) (xs[m].kids.drop (j + 1)) e1 = R by rw [← HQQ.out, hpe]; rfl)
              have HPE := Lib.hid hpe
              clear hpe
              go_wp2_with fail
              refine KI.out.mono ?_
              rw [HPE.out]
              rintro e w2 ⟨rfl, hb4⟩
              rw [show endZ (some e1) = (e1 : Int) from rfl]
              go_wp2_with fail
              go_roundw
              case rel => exact ⟨j + 1, e1, by omega, by go_num, rfl, by omega, by omega, HE.out, below_chain hb4 HBel.out HBel.out.size⟩
              case measure => simp [intOf]; omega
          · rw [if_neg hzc] at HQ
            have HQQ := Lib.hid HQ
            clear HQ hcell hz
            go_wp2_with fail
            go_ret
            exact ⟨ret_n (by rw [← HQQ.out]; rfl), hb0.out⟩
        · have HE := Lib.hid (show R = some cur by rw [← HP.out, List.drop_eq_nil_of_le (by omega)]; rfl)
          go_wp2_with fail
          go_ret
          exact ⟨ret_n (by rw [HE.out]; rfl), hb0.out⟩
    · exact out (n + 1) w h hs v xs hv hl m hm hlt
end Go.Proofs.Ythmedgipfdoneaa

/- Constructors and their children: both texts. -/
namespace Go.Proofs.Ythmedgipfdoneaa
set_option linter.unusedVariables false
set_option linter.unusedSimpArgs false
open Go.RowKit
def shapeM (s : ByteArray) (k : Nat) (pair : Bool) : Bool :=
  if s.toList == [116, 114, 117, 101] || s.toList == [102, 97, 108, 115, 101] || s.toList == [91, 93] then (k : Int) == 0
  else if s.toList == [58, 58] then ((k : Int) == 1) && pair
  else conM s.data.toList && decide ((k : Int) ≤ 1)
set_option maxRecDepth 100000 in
set_option maxHeartbeats 2000000 in
theorem impl_conShape (w : World) (s : ByteArray) (hs : s.size ≤ maxLen) (k : Nat) (pair : Bool) :
    Calls Try.prog 102 #[.string s, .int .i64 k, .bool pair] w fun e w' => e = .returned (.bool (shapeM s k pair)) ∧ w = w' := by
  go_enter Try.func102, Try.ntmps102
  go_wp2_with (first | (go_at_call 116; refine (impl_ConOk _ _ hs).mono ?_; rintro e w' ⟨rfl, rfl⟩))
  all_goals
    go_ret
    exact ⟨ret_b (by grind [shapeM]), rfl⟩
set_option maxRecDepth 100000 in
set_option maxHeartbeats 2000000 in
theorem spec_l04ConOk (w : World) (s : ByteArray) (hs : s.size ≤ maxLen) (k : Nat) (pair : Bool) :
    Calls Try.prog 77 #[.string s, .int .i64 k, .bool pair] w fun e w' => e = .returned (.bool (shapeM s k pair)) ∧ w = w' := by
  go_enter Try.func77, Try.ntmps77
  go_wp2_with (first | (go_at_call 74; refine (spec_ConOk _ _ hs).mono ?_; rintro e w' ⟨rfl, rfl⟩))
  all_goals
    go_ret
    exact ⟨ret_b (by grind [shapeM]), rfl⟩
end Go.Proofs.Ythmedgipfdoneaa

/- A node of a pattern: the program's text. -/
namespace Go.Proofs.Ythmedgipfdoneaa
set_option linter.unusedVariables false
set_option linter.unusedSimpArgs false
open Go.RowKit
/-- the only child is a pair. -/
def pairP (xs : List DPNode) (l : List Int) : Bool := match l with
  | [k] => decide (0 ≤ k) && decide (k < xs.length) && (match xs[k.toNat]? with | some x => x.kind == 5 | none => false)
  | _ => false
theorem pairP_no (xs : List DPNode) (l : List Int) (h : ¬ l.length = 1) : pairP xs l = false := by
  unfold pairP
  split
  · simp at h
  · rfl
theorem pairP_at (xs : List DPNode) (l : List Int) (h : l.length = 1) (k : Nat) (hk : k < xs.length) (hl : l[0]'(by omega) = (k : Int)) : pairP xs l = (xs[k].kind == 5) := by
  match l, h with
  | [z], _ =>
    have hz : z = (k : Int) := hl
    subst hz
    have e : pairP xs [(k : Int)] = (decide (0 ≤ (k : Int)) && decide ((k : Int) < xs.length) && (match xs[(k : Int).toNat]? with | some x => x.kind == 5 | none => false)) := rfl
    rw [e, decide_eq_true (by omega), decide_eq_true (by omega), Int.toNat_natCast, List.getElem?_eq_getElem hk]
    rfl
theorem pairP_out (xs : List DPNode) (l : List Int) (h : l.length = 1) (hl : l[0]'(by omega) < 0 ∨ (xs.length : Int) ≤ l[0]'(by omega)) : pairP xs l = false := by
  match l, h with
  | [z], _ =>
    have hz : z < 0 ∨ (xs.length : Int) ≤ z := hl
    have e : pairP xs [z] = (decide (0 ≤ z) && decide (z < xs.length) && (match xs[z.toNat]? with | some x => x.kind == 5 | none => false)) := rfl
    rw [e]
    rcases hz with hz | hz
    · rw [decide_eq_false (by omega)]; rfl
    · rw [decide_eq_false (p := z < (xs.length : Int)) (by omega), Bool.and_false]; rfl
def pnodeB (p : Bool) (x : DPNode) : Bool :=
  if x.kind = 3 then ((x.kids.length : Int) == 0) && x.s.toList.isEmpty && (decide (-4611686018427387903 ≤ x.n) && decide (x.n ≤ 4611686018427387903))
  else if x.kind = 2 then ((x.kids.length : Int) == 0) && (x.n == 0) && nameM x.s
  else if x.kind = 6 ∨ x.kind = 1 then ((x.kids.length : Int) == 0) && (x.n == 0) && x.s.toList.isEmpty
  else if x.kind = 5 then ((x.kids.length : Int) == 2) && (x.n == 0) && x.s.toList.isEmpty
  else if x.kind = 4 then (x.n == 0) && shapeM x.s x.kids.length p
  else false
def pnodeM (xs : List DPNode) (x : DPNode) : Bool := pnodeB (pairP xs x.kids) x
set_option maxRecDepth 100000 in
set_option maxHeartbeats 4000000 in
theorem impl_patNodeOk (w : World) (h : Hp) (hs : Sub h w) (v : Value) (xs : List DPNode) (hv : DPNodeS h v xs) (hl : xs.length ≤ 1000000000) (x : DPNode) (hx : pNodeOk x) (vx : Value) (hvx : IntS h vx x.kids) (hkl : x.kids.length ≤ 1000000000)
    (hin : ∀ h1 : x.kids.length = 1, ∃ k : Nat, x.kids[0]'(by omega) = (k : Int) ∧ k < xs.length) :
    Calls Try.prog 93 #[.agg #[v], .agg #[.int .i64 x.kind, .int .i64 x.n, .string x.s, vx]] w fun e w' => e = .returned (.bool (pnodeM xs x)) ∧ Below w.heap.size w w' := by
  obtain ⟨kind, n, s, kids⟩ := x
  obtain ⟨hk, hn, hsz⟩ := hx
  unfold I64 at hk hn
  dsimp only at hk hn hsz hvx hkl hin ⊢
  have HVX := Lib.hid hvx
  obtain ⟨ax, cx, rfl, hx1, hx2, -⟩ := hvx
  unfold maxLen at hx2
  have HV := Lib.hid hv
  obtain ⟨a, c, rfl, hc1, hc2, -⟩ := hv
  unfold maxLen at hc2
  by_cases h4 : kind = 4
  · subst h4
    have HM : pnodeM xs ⟨4, n, s, kids⟩ = ((n == 0) && shapeM s kids.length (pairP xs kids)) := by unfold pnodeM pnodeB; simp
    by_cases hn0 : n = 0
    · subst hn0
      obtain ⟨bq, hbq⟩ : ∃ b, pnodeM xs ⟨4, 0, s, kids⟩ = b := ⟨_, rfl⟩
      rw [hbq] at HM ⊢
      clear hbq
      by_cases h1 : kids.length = 1
      · obtain ⟨k, hk0, hkx⟩ := hin h1
        have hP := pairP_at xs kids h1 k hkx hk0
        obtain ⟨bl, off, rfl, hcell⟩ := HVX.out.cell (i := 0) (by omega)
        obtain ⟨bl2, off2, rfl, hcell2⟩ := HV.out.cell hkx
        obtain ⟨v1, -, hcs⟩ := hcell2 k hkx
        obtain ⟨W, hW⟩ : ∃ W, W = (w.alloc (.cells #[.slice (some ⟨bl2, off2, none⟩) xs.length c] 87)).alloc (.cells #[.int .i64 4, .int .i64 0, .string s, .slice (some ⟨bl, off, none⟩) kids.length cx] 135) := ⟨_, rfl⟩
        have e0 := hcell 0 (by omega) W (by rw [hW]; exact (hs.alloc _).alloc _)
        obtain ⟨e1, -⟩ := hcs W (by rw [hW]; exact (hs.alloc _).alloc _)
        rw [hk0] at e0
        rw [hW] at e0 e1
        rw [Nat.add_zero] at e0
        clear hW hcell hcell2 hcs hin
        have hkk : (kids.length : Int) = 1 := by omega
        have hkx' : (k : Int) < (xs.length : Int) := by omega
        have hkx0 : (0 : Int) ≤ (k : Int) := by omega
        rw [h1] at HM
        clear h1 hk0 hkl hx1 hc1
        cases hq : (xs[k].kind == 5)
        all_goals
          rw [hq] at hP
          rw [hP] at HM
          have HMM := Lib.hid HM
          clear HM hP
          go_enter Try.func93, Try.ntmps93
          go_wp2_with fail
          go_quiet (first | (go_at_call 102; refine Calls.quiet_of_same ((impl_conShape _ s hsz 1 _).mono fun _ _ q => ⟨q.1, q.2.symm⟩)))
          all_goals
            go_wp2_with fail
            go_ret
            exact ⟨ret_b (by rw [HMM.out]; simp), below_drewI ((by repeat (first | with_reducible exact Below.refl _ _ | with_reducible assumption | with_reducible refine Below.setCell ?_ ?_ _ | with_reducible refine Below.alloc ?_ ?_ _ | with_reducible refine Below.drew ?_ | (with_reducible apply below_chain; with_reducible assumption) | exact Nat.le_refl _ | omega | (simp <;> omega)))) _⟩
      · have hP := pairP_no xs kids h1
        rw [hP] at HM
        have HMM := Lib.hid HM
        have hkk : ((kids.length : Int) == 1) = false := by simpa using (show ¬ (kids.length : Int) = 1 by omega)
        have hkk2 : decide ((kids.length : Int) = 1) = false := by simpa using (show ¬ (kids.length : Int) = 1 by omega)
        clear HM hP hin
        go_enter Try.func93, Try.ntmps93
        go_wp2_with fail
        go_quiet (first | (go_at_call 102; refine Calls.quiet_of_same ((impl_conShape _ s hsz kids.length _).mono fun _ _ q => ⟨q.1, q.2.symm⟩)))
        all_goals
          go_wp2_with fail
          go_ret
          exact ⟨ret_b (by rw [HMM.out]; simp), below_drewI ((by repeat (first | with_reducible exact Below.refl _ _ | with_reducible assumption | with_reducible refine Below.setCell ?_ ?_ _ | with_reducible refine Below.alloc ?_ ?_ _ | with_reducible refine Below.drew ?_ | (with_reducible apply below_chain; with_reducible assumption) | exact Nat.le_refl _ | omega | (simp <;> omega)))) _⟩
    · have hn1 : (n == 0) = false := by simpa using hn0
      have hn2 : decide (n = 0) = false := by simpa using hn0
      rw [hn1, Bool.false_and] at HM
      rw [HM]
      clear HM hin hn0
      go_enter Try.func93, Try.ntmps93
      go_wp2_with fail
      go_quiet (first | (go_at_call 102; refine Calls.quiet_of_same ((impl_conShape _ s hsz kids.length _).mono fun _ _ q => ⟨q.1, q.2.symm⟩)))
      all_goals
        go_wp2_with fail
        go_ret
        exact ⟨rfl, below_drewI ((by repeat (first | with_reducible exact Below.refl _ _ | with_reducible assumption | with_reducible refine Below.setCell ?_ ?_ _ | with_reducible refine Below.alloc ?_ ?_ _ | with_reducible refine Below.drew ?_ | (with_reducible apply below_chain; with_reducible assumption) | exact Nat.le_refl _ | omega | (simp <;> omega)))) _⟩
  · clear hin
    have HE := Lib.hid (show ((kids.length : Int) == 0) = decide (kids = []) by cases kids <;> simp <;> omega)
    go_enter Try.func93, Try.ntmps93
    go_wp2_with (first | (go_at_call 60; refine (impl_within _ _ _ _).mono ?_; rintro e w' ⟨rfl, rfl⟩) | (go_at_call 45; refine (impl_NameOk _ _ hsz).mono ?_; rintro e w1 ⟨rfl, hb1⟩; obtain ⟨kc1, kf1⟩ := bcell hb1; have kz1 := hb1.size; (try simp at kz1); (first | (refine (fun (kw1_0 : w.heap.size  < w1.heap.size) => ?_) ?_; rotate_left; omega) | skip); (first | (refine (fun (kw1_1 : w.heap.size + 1 < w1.heap.size) => ?_) ?_; rotate_left; omega) | skip); (first | (refine (fun (kw1_2 : w.heap.size + 1 + 1 < w1.heap.size) => ?_) ?_; rotate_left; omega) | skip)))
    all_goals
      go_ret
      refine ⟨ret_b ?_, (by repeat (first | with_reducible exact Below.refl _ _ | with_reducible assumption | with_reducible refine Below.setCell ?_ ?_ _ | with_reducible refine Below.alloc ?_ ?_ _ | with_reducible refine Below.drew ?_ | (with_reducible apply below_chain; with_reducible assumption) | exact Nat.le_refl _ | omega | (simp <;> omega)))⟩
      have hE := HE.out
      clear HV HVX
      simp only [pnodeM, pnodeB, hE]
      try clear kc1 kf1 hb1
      first | (simp_all; done) | grind
end Go.Proofs.Ythmedgipfdoneaa

/- A node of a pattern: the reference's text. -/
namespace Go.Proofs.Ythmedgipfdoneaa
set_option linter.unusedVariables false
set_option linter.unusedSimpArgs false
open Go.RowKit
theorem below_chain' {a b c : World} (k : Below a.heap.size a b) (h : Below b.heap.size b c) : Below a.heap.size a c := below_chain h k k.size
set_option maxRecDepth 100000 in
set_option maxHeartbeats 8000000 in
theorem spec_l04PNode (w : World) (h : Hp) (hs : Sub h w) (v : Value) (xs : List DPNode) (hv : DPNodeS h v xs) (hl : xs.length ≤ 1000000000) (x : DPNode) (hx : pNodeOk x) (vx : Value) (hvx : IntS h vx x.kids) (hkl : x.kids.length ≤ 1000000000) :
    Calls Try.prog 97 #[.agg #[v], .agg #[.int .i64 x.kind, .int .i64 x.n, .string x.s, vx]] w fun e w' => e = .returned (.bool (pnodeM xs x)) ∧ Below w.heap.size w w' := by
  obtain ⟨kind, n, s, kids⟩ := x
  obtain ⟨hk, hn, hsz⟩ := hx
  unfold I64 at hk hn
  dsimp only at hk hn hsz hvx hkl ⊢
  have HV1 := Lib.hid hvx
  have hmk := Lib.hid hvx.mem
  obtain ⟨a1, d1, rfl, hx1, hx2, -⟩ := hvx
  unfold maxLen at hx2
  have HV := Lib.hid hv
  obtain ⟨a, c, rfl, hc1, hc2, -⟩ := hv
  unfold maxLen at hc2
  obtain ⟨p, hp⟩ : ∃ p, pairP xs kids = p := ⟨_, rfl⟩
  have HPP := Lib.hid hp
  have HM : pnodeM xs ⟨kind, n, s, kids⟩ = pnodeB p ⟨kind, n, s, kids⟩ := by unfold pnodeM; rw [hp]
  rw [HM]
  clear hp HM
  go_enter Try.func97, Try.ntmps97
  go_wp2_with fail
  go_cut [5] from 6 to 200 (fun cc wx => cc = .bool p ∧ ∃ nq, wx = ((w.alloc (.cells #[.slice a xs.length c] 87)).alloc (.cells #[.int .i64 kind, .int .i64 n, .string s, .slice a1 kids.length d1] 135)).drewN nq)
  case first =>
    have MEET := Lib.hid HPP.out
    by_cases h1 : kids.length = 1
    · have hki := hmk.out _ (List.getElem_mem (show 0 < kids.length by omega))
      obtain ⟨bl', off', rfl, hcell'⟩ := HV1.out.cell (i := 0) (by omega)
      have hkk1 : (kids.length : Int) = 1 := by omega
      obtain ⟨z, hz⟩ : ∃ z, z = kids[0]'(by omega) := ⟨_, rfl⟩
      have hout : z < 0 ∨ (xs.length : Int) ≤ z → pairP xs kids = false := fun e => pairP_out xs kids h1 (by rw [← hz]; exact e)
      have hat : ∀ (kn : Nat) (hk : kn < xs.length), z = (kn : Int) → pairP xs kids = (xs[kn].kind == 5) := fun kn hk e => pairP_at xs kids h1 kn hk (hz.symm.trans e)
      have hce : ∀ W : World, Sub h W → W.cell? ⟨bl', off', none⟩ = some (.int .i64 z) := fun W hW => by
        have := hcell' 0 (by omega) W hW
        rw [Nat.add_zero] at this
        rw [hz]; exact this
      rw [← hz] at hki
      unfold I64 at hki
      clear hz h1 hcell'
      by_cases hz0 : z < 0
      · have HO := Lib.hid (hout (.inl hz0))
        have g1 : decide (0 ≤ z) = false := by simpa using hz0
        have e0 := hce ((w.alloc (.cells #[.slice a xs.length c] 87)).alloc (.cells #[.int .i64 kind, .int .i64 n, .string s, .slice (some ⟨bl', off', none⟩) kids.length d1] 135)) ((hs.alloc _).alloc _)
        clear hout hat hce
        go_quiet (fail)
        go_wp2_with fail
        go_meet
        exact ⟨congrArg Value.bool (HO.out.symm.trans MEET.out), _, rfl⟩
      · by_cases hz1 : z < (xs.length : Int)
        · obtain ⟨kn, rfl⟩ : ∃ kn : Nat, z = kn := ⟨z.toNat, by omega⟩
          have hkn : kn < xs.length := by omega
          have HA := hat kn hkn rfl
          obtain ⟨bl2, off2, rfl, hcell2⟩ := HV.out.cell hkn
          obtain ⟨v2, -, hcs2⟩ := hcell2 kn hkn
          obtain ⟨e1, -⟩ := hcs2 ((w.alloc (.cells #[.slice (some ⟨bl2, off2, none⟩) xs.length c] 87)).alloc (.cells #[.int .i64 kind, .int .i64 n, .string s, .slice (some ⟨bl', off', none⟩) kids.length d1] 135)) ((hs.alloc _).alloc _)
          have e0 := hce ((w.alloc (.cells #[.slice (some ⟨bl2, off2, none⟩) xs.length c] 87)).alloc (.cells #[.int .i64 kind, .int .i64 n, .string s, .slice (some ⟨bl', off', none⟩) kids.length d1] 135)) ((hs.alloc _).alloc _)
          have g1 : (0 : Int) ≤ (kn : Int) := by omega
          clear hout hat hcs2 hcell2 hce hz0
          cases hq : (xs[kn].kind == 5)
          all_goals
            rw [hq] at HA
            have HAA := Lib.hid HA
            clear HA
            go_quiet (fail)
            go_wp2_with fail
            go_meet
            exact ⟨congrArg Value.bool (HAA.out.symm.trans MEET.out), _, rfl⟩
        · have HO := Lib.hid (hout (.inr (by omega)))
          have g1 : (0 : Int) ≤ z := by omega
          have g2 : decide (z < (xs.length : Int)) = false := by simpa using hz1
          have e0 := hce ((w.alloc (.cells #[.slice a xs.length c] 87)).alloc (.cells #[.int .i64 kind, .int .i64 n, .string s, .slice (some ⟨bl', off', none⟩) kids.length d1] 135)) ((hs.alloc _).alloc _)
          clear hout hat hce hz0
          go_quiet (fail)
          go_wp2_with fail
          go_meet
          exact ⟨congrArg Value.bool (HO.out.symm.trans MEET.out), _, rfl⟩
    · have HO := Lib.hid (pairP_no xs kids h1)
      have hkk1 : ((kids.length : Int) == 1) = false := by simpa using (show ¬ (kids.length : Int) = 1 by omega)
      go_quiet (fail)
      go_wp2_with fail
      go_meet
      exact ⟨congrArg Value.bool (HO.out.symm.trans MEET.out), _, rfl⟩
  case rest =>
    obtain ⟨rfl, nq, rfl⟩ := hcut
    have HE := Lib.hid (show ((kids.length : Int) == 0) = decide (kids = []) by cases kids <;> simp <;> omega)
    rcases (show kind = 1 ∨ kind = 2 ∨ kind = 3 ∨ kind = 4 ∨ kind = 5 ∨ kind = 6 ∨ (¬ kind = 1 ∧ ¬ kind = 2 ∧ ¬ kind = 3 ∧ ¬ kind = 4 ∧ ¬ kind = 5 ∧ ¬ kind = 6) by omega) with rfl | rfl | rfl | rfl | rfl | rfl | ⟨k1, k2, k3, k4, k5, k6⟩
    all_goals
      go_wp2_with (first | (go_at_call 77; refine (spec_l04ConOk _ s hsz kids.length p).mono ?_; rintro e w' ⟨rfl, rfl⟩) | (go_at_call 37; refine (spec_NameOk _ s hsz).mono ?_; rintro e w1 ⟨rfl, hb1⟩; obtain ⟨kc1, kf1⟩ := bcell hb1; have kz1 := hb1.size; (try simp at kz1); (first | (refine (fun (kw1_0 : w.heap.size  < w1.heap.size) => ?_) ?_; rotate_left; omega) | skip); (first | (refine (fun (kw1_1 : w.heap.size + 1 < w1.heap.size) => ?_) ?_; rotate_left; omega) | skip); (first | (refine (fun (kw1_2 : w.heap.size + 1 + 1 < w1.heap.size) => ?_) ?_; rotate_left; omega) | skip)))
      all_goals
        go_ret
        refine ⟨ret_b ?_, (by first | exact (below_drewI ((by repeat (first | with_reducible exact Below.refl _ _ | with_reducible assumption | with_reducible refine Below.setCell ?_ ?_ _ | with_reducible refine Below.alloc ?_ ?_ _ | with_reducible refine Below.drew ?_ | (with_reducible apply below_chain; with_reducible assumption) | exact Nat.le_refl _ | omega | (simp <;> omega)))) _) | exact below_chain' (below_drewI ((by repeat (first | with_reducible exact Below.refl _ _ | with_reducible assumption | with_reducible refine Below.setCell ?_ ?_ _ | with_reducible refine Below.alloc ?_ ?_ _ | with_reducible refine Below.drew ?_ | (with_reducible apply below_chain; with_reducible assumption) | exact Nat.le_refl _ | omega | (simp <;> omega)))) _) hb1)⟩
        have hE := HE.out
        clear HV HV1 hmk HPP HE
        try clear kc1 kf1 hb1
        simp only [pnodeB, hE]
        first | (simp_all; done) | grind
end Go.Proofs.Ythmedgipfdoneaa
