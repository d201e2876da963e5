import Derived.Test.YtngobmjdbjlkcaaBase
import Derived.Test.YtngobmjdbjlkcaaTyM
import Derived.Deep.QuietTactic
import Derived.BigQuiet
import Derived.Deep.RegionLaw
/- Types: how they are read; szTy, toTy, eqTy. -/
namespace Go.Proofs.Ytngobmjdbjlkcaa
set_option linter.unusedVariables false
open Go.RowKit Go.ChangeShapes Go.WideShapes

def TyI.cells (x : TyI) : List Value := [.int .i64 x.v, .string x.name, .int .i64 x.ar]
def tyR (_ : Hp) (r : List Value) (x : TyI) : Prop := r = x.cells ∧ x.ok
abbrev TyS (h : Hp) (v : Value) (xs : List TyI) : Prop := SlOf 3 tyR h v xs
theorem TyS.le' {h h' : Hp} {v : Value} {xs : List TyI} (x : TyS h v xs) (l : HLe h h') : TyS h' v xs := SlOf.le x l fun _ _ _ r => r
theorem TyS.mem {h : Hp} {v : Value} {xs : List TyI} (x : TyS h v xs) : ∀ s ∈ xs, s.ok := by
  obtain ⟨a, c, _, _, _, r⟩ := x
  intro s hs
  rcases r with rfl | ⟨b, off, _, hc⟩
  · cases hs
  · obtain ⟨i, hi, rfl⟩ := List.getElem_of_mem hs
    obtain ⟨_, _, _, hr⟩ := hc i hi
    exact hr.2
/-- the cells of an item. -/
theorem TyS.cell {h : Hp} {a : Option Addr} {n c : Nat} {xs : List TyI} (x : TyS h (.slice a n c) xs) {i : Nat} (hi : i < xs.length) :
    ∃ b off, a = some ⟨b, off, none⟩ ∧ ∀ j (hj : j < xs.length) (w : World), Sub h w → w.cell? ⟨b, off + j * 3, none⟩ = some (.int .i64 xs[j].v) ∧
      w.cell? ⟨b, off + j * 3 + 1, none⟩ = some (.string xs[j].name) ∧ w.cell? ⟨b, off + j * 3 + 2, none⟩ = some (.int .i64 xs[j].ar) := by
  obtain ⟨a', c', e, _, _, r⟩ := x
  injection e with e1 e2 e3
  subst e1
  rcases r with rfl | ⟨b, off, ea, hc⟩
  · simp at hi
  · refine ⟨b, off, ea, fun j hj w hw => ?_⟩
    obtain ⟨r, hr1, hr2, hr3⟩ := hc j hj
    rw [hr3.1] at hr2
    exact ⟨hr2.cell hw (i := 0) (by simp [TyI.cells]), hr2.cell hw (i := 1) (by simp [TyI.cells]), hr2.cell hw (i := 2) (by simp [TyI.cells])⟩

theorem cells_TyItem : Try.prog.cellsOf 138 = 3 := by kernel_rfl
theorem cells_Ty : Try.prog.cellsOf 35 = 1 := by kernel_rfl
theorem cells_tint : Try.prog.cellsOf 3 = 1 := by kernel_rfl
theorem cells_tstring : Try.prog.cellsOf 9 = 1 := by kernel_rfl
theorem cells_tys : Try.prog.cellsOf 33 = 1 := by kernel_rfl
theorem tlen3 {cs : List Value} (h : cs.length = 3) : ∃ a b c, cs = [a, b, c] := by
  match cs, h with
  | [a, b, c], _ => exact ⟨a, b, c, rfl⟩
theorem tlen1 {cs : List Value} (h : cs.length = 1) : ∃ a, cs = [a] := by
  match cs, h with
  | [a], _ => exact ⟨a, rfl⟩
theorem rd_TyItem {H : Type} {enc : TypeId × Value → H} {W : World} {n : Nat} {cs : List Value} {x : DataW H × List MemPlace} (h : Rd enc Try.prog W n 138 cs x) : ∃ t : TyI, tyR (hp W) cs t := by
  obtain ⟨hl, m, hf⟩ := rd_fields Try.underlying138 h
  rw [cells_TyItem] at hl
  obtain ⟨a, b, c, rfl⟩ := tlen3 hl
  simp only [List.forall_mem_cons, cells_tint, cells_tstring] at hf
  obtain ⟨⟨_, h0⟩, ⟨_, h1⟩, ⟨_, h2⟩, _⟩ := hf
  obtain ⟨k0, e0, -, z0⟩ := DataW.trod_int Try.underlying3 h0
  obtain ⟨k1, e1, -, hs⟩ := DataW.trod_string Try.underlying9 h1
  obtain ⟨k2, e2, -, z2⟩ := DataW.trod_int Try.underlying3 h2
  simp at e0 e1 e2
  subst e0 e1 e2
  exact ⟨⟨k0, k1, k2⟩, rfl, i64_of z0, hs, i64_of z2⟩
theorem rd_tys {H : Type} {enc : TypeId × Value → H} {W : World} {n : Nat} {cs : List Value} {x : DataW H × List MemPlace} (h : Rd enc Try.prog W n 33 cs x) : ∃ v xs, cs = [v] ∧ TyS (hp W) v xs :=
  rd_slice 3 tyR Try.underlying33 cells_TyItem (by decide) (fun n cs' y hy => rd_TyItem hy) h
theorem rd_Ty {H : Type} {enc : TypeId × Value → H} {W : World} {n : Nat} {cs : List Value} {x : DataW H × List MemPlace} (h : Rd enc Try.prog W n 35 cs x) : ∃ v xs, cs = [v] ∧ TyS (hp W) v xs := by
  obtain ⟨hl, m, hf⟩ := rd_fields Try.underlying35 h
  rw [cells_Ty] at hl
  obtain ⟨a, rfl⟩ := tlen1 hl
  simp only [List.forall_mem_cons, cells_tys] at hf
  obtain ⟨⟨_, h0⟩, _⟩ := hf
  obtain ⟨v, xs, e, hx⟩ := rd_tys h0
  simp at e
  subst e
  exact ⟨_, xs, rfl, hx⟩

def TyI.val (x : TyI) : Value := .agg #[.int .i64 x.v, .string x.name, .int .i64 x.ar]
theorem laws_szTyItem (w : World) (x y : Int) (s : ByteArray) (hs : s.size ≤ maxLen) (left : Int) (h0 : 0 ≤ left) (h1 : left ≤ 1048576) :
    Calls Try.prog 110 #[.agg #[.int .i64 x, .string s, .int .i64 y], .int .i64 left] w fun e w' => e = .returned (.int .i64 (if left < s.size then -1 else left - s.size)) ∧ Below w.heap.size w w' := by
  unfold maxLen at hs
  by_cases h : left < s.size
  · rw [if_pos h]
    go_enter Try.func110, Try.ntmps110
    go_wp2
    go_ret
    exact ⟨rfl, (by repeat (first | with_reducible exact Below.refl _ _ | with_reducible assumption | with_reducible refine Below.setCell ?_ ?_ _ | with_reducible refine Below.alloc ?_ ?_ _ | with_reducible refine Below.drew ?_ | (with_reducible apply below_chain; with_reducible assumption) | exact Nat.le_refl _ | omega | (simp <;> omega)))⟩
  · rw [if_neg h]
    go_enter Try.func110, Try.ntmps110
    go_wp2
    go_ret
    exact ⟨rfl, (by repeat (first | with_reducible exact Below.refl _ _ | with_reducible assumption | with_reducible refine Below.setCell ?_ ?_ _ | with_reducible refine Below.alloc ?_ ?_ _ | with_reducible refine Below.drew ?_ | (with_reducible apply below_chain; with_reducible assumption) | exact Nat.le_refl _ | omega | (simp <;> omega)))⟩
theorem laws_toTyItem (w : World) (x y : Int) (s : ByteArray) :
    Calls Try.prog 112 #[.agg #[.int .i64 x, .string s, .int .i64 y]] w fun e w' => e = .returned (.agg #[.int .i64 x, .string s, .int .i64 y]) ∧ Below w.heap.size w w' := by
  go_enter Try.func112, Try.ntmps112
  go_wp2
  exact bodyPost_ret (v := .agg #[.int .i64 x, .string s, .int .i64 y]) (by simp [results, Try.results112, go_sem]) rfl ⟨rfl, (by repeat (first | with_reducible exact Below.refl _ _ | with_reducible assumption | with_reducible refine Below.setCell ?_ ?_ _ | with_reducible refine Below.alloc ?_ ?_ _ | with_reducible refine Below.drew ?_ | (with_reducible apply below_chain; with_reducible assumption) | exact Nat.le_refl _ | omega | (simp <;> omega)))⟩
theorem laws_eqTyItem (w : World) (x y : Int) (s : ByteArray) :
    Calls Try.prog 113 #[.agg #[.int .i64 x, .string s, .int .i64 y], .agg #[.int .i64 x, .string s, .int .i64 y]] w fun e w' => e = .returned (.bool true) ∧ Below w.heap.size w w' := by
  go_enter Try.func113, Try.ntmps113
  go_wp2
  go_ret
  exact ⟨rfl, (by repeat (first | with_reducible exact Below.refl _ _ | with_reducible assumption | with_reducible refine Below.setCell ?_ ?_ _ | with_reducible refine Below.alloc ?_ ?_ _ | with_reducible refine Below.drew ?_ | (with_reducible apply below_chain; with_reducible assumption) | exact Nat.le_refl _ | omega | (simp <;> omega)))⟩
end Go.Proofs.Ytngobmjdbjlkcaa

/- Slices of items: szTyItemS, toTyItemS, eqTyItemS. -/
namespace Go.Proofs.Ytngobmjdbjlkcaa
set_option linter.unusedVariables false
set_option linter.unusedSimpArgs false
open Go.RowKit Go.ChangeShapes Go.WideShapes
def SzP (left n : Int) (e : Ending) : Prop := ∃ r : Int, e = .returned (.int .i64 r) ∧ -1 ≤ r ∧ r ≤ left ∧ (0 ≤ r → n ≤ left)
theorem laws_szTyItemS (w : World) (h : Hp) (hs : Sub h w) (v : Value) (xs : List TyI) (hv : TyS h v xs) (left : Int) (h0 : 0 ≤ left) (h1 : left ≤ 1048576) :
    Calls Try.prog 59 #[v, .int .i64 left] w fun e w' => SzP left xs.length e ∧ Below w.heap.size w w' := by
  have hm := hv.mem
  have HV := Lib.hid hv
  obtain ⟨a, c, rfl, hc1, hc2, -⟩ := hv
  unfold maxLen at hc2
  by_cases hl : left < xs.length
  · go_enter Try.func59, Try.ntmps59
    go_wp2
    go_ret
    exact ⟨⟨_, rfl, by omega, by omega, by omega⟩, Below.refl _ _⟩
  · go_enter Try.func59, Try.ntmps59
    go_wp2
    go_loopw [1, 5] (fun lv i wr => ∃ (k : Nat) (r : Int), i = .int .i64 k ∧ lv = .int .i64 r ∧ k ≤ xs.length ∧ 0 ≤ r ∧ r ≤ left ∧ Below w.heap.size w wr) (fun _ i _ => xs.length - (intOf i).toNat)
    case atStart => exact ⟨0, _, rfl, rfl, by omega, by omega, by omega, Below.refl _ _⟩
    case round =>
      obtain ⟨k, r, rfl, rfl, hk, hr0, hr1, hbel⟩ := hrel
      by_cases hlt : k < xs.length
      · obtain ⟨b, off, rfl, hcell⟩ := HV.out.cell hlt
        obtain ⟨c0, c1, c2⟩ := hcell k hlt wr (hs.below hbel)
        obtain ⟨-, hz, -⟩ := hm _ (List.getElem_mem hlt)
        have HZ := Lib.hid hz
        clear hcell hz
        by_cases hb : r < xs[k].name.size
        · go_wp2_with (first | (go_at_call 110; refine (laws_szTyItem _ _ _ _ HZ.out r hr0 (by omega)).mono ?_; rw [if_pos hb]; rintro e w1 ⟨rfl, hb1⟩))
          go_ret
          exact ⟨⟨_, rfl, by omega, by omega, by omega⟩, below_chain hb1 hbel hbel.size⟩
        · go_wp2_with (first | (go_at_call 110; refine (laws_szTyItem _ _ _ _ HZ.out r hr0 (by omega)).mono ?_; rw [if_neg hb]; rintro e w1 ⟨rfl, hb1⟩))
          go_roundw
          case rel => exact ⟨k + 1, r - xs[k].name.size, by go_num, rfl, by omega, by omega, by omega, below_chain hb1 hbel hbel.size⟩
          case measure => simp [intOf]; omega
      · go_wp2
        go_ret
        exact ⟨⟨_, rfl, by omega, by omega, by omega⟩, hbel⟩
theorem info_TyItem : (Try.prog.info? 31).map (fun i => (i.zero, i.size, i.bytes)) = some (some (.agg #[.int .i64 0, .string ByteArray.empty, .int .i64 0]), 3, 32) := by kernel_rfl
def tyZ : TyI := ⟨0, ByteArray.empty, 0⟩
def tySt (xs : List TyI) (k : Nat) : List Value := (xs.take k ++ List.replicate (xs.length - k) tyZ).flatMap TyI.cells
theorem tySt_end (xs : List TyI) : tySt xs xs.length = xs.flatMap TyI.cells := by simp [tySt]
theorem flat3_set : ∀ (l : List TyI) (k : Nat) (x : TyI), k < l.length → ((((l.flatMap TyI.cells).set (k * 3) (.int .i64 x.v)).set (k * 3 + 1) (.string x.name)).set (k * 3 + 2) (.int .i64 x.ar)) = (l.set k x).flatMap TyI.cells
  | [], _, _, h => by simp at h
  | y :: l, 0, x, _ => rfl
  | y :: l, k + 1, x, h => by
    have ih := flat3_set l k x (by simpa using h)
    rw [List.set_cons_succ, List.flatMap_cons, List.flatMap_cons, ← ih]
    rw [show (k + 1) * 3 = k * 3 + 3 by omega]
    simp only [TyI.cells, List.cons_append, List.nil_append, List.set_cons_succ, show k * 3 + 3 + 1 = k * 3 + 1 + 3 by omega, show k * 3 + 3 + 2 = k * 3 + 2 + 3 by omega]
theorem tySt_succ (xs : List TyI) (k : Nat) (h : k < xs.length) : ((((tySt xs k).set (k * 3) (.int .i64 xs[k].v)).set (k * 3 + 1) (.string xs[k].name)).set (k * 3 + 2) (.int .i64 xs[k].ar)) = tySt xs (k + 1) := by
  unfold tySt
  rw [flat3_set _ _ _ (by simp; omega)]
  congr 1
  rw [List.take_succ_eq_append_getElem h, show xs.length - k = (xs.length - (k + 1)) + 1 by omega, List.replicate_succ]
  have hl : (xs.take k).length = k := by simp; omega
  rw [List.set_append_right _ _ (by omega), hl]
  simp only [Nat.sub_self, List.set_cons_zero, List.append_assoc, List.cons_append, List.nil_append]
theorem tySt_zero (xs : List TyI) : (madeCells #[.int .i64 0, .string ByteArray.empty, .int .i64 0] (xs.length * 3)).toList = tySt xs 0 := by
  have key : ∀ n : Nat, (List.range (n * 3)).map (fun j => (#[Value.int .i64 0, .string ByteArray.empty, .int .i64 0] : Array Value)[j % 3]!) = (List.replicate n tyZ).flatMap TyI.cells := by
    intro n
    induction n with
    | zero => rfl
    | succ n ih =>
      rw [List.replicate_succ', List.flatMap_append, ← ih, show (n + 1) * 3 = n * 3 + 1 + 1 + 1 by omega, List.range_succ, List.range_succ, List.range_succ]
      simp [tyZ, TyI.cells, Nat.add_assoc, show (n * 3 + 1) % 3 = 1 by omega, show (n * 3 + 2) % 3 = 2 by omega]
  unfold tySt
  rw [List.take_zero, List.nil_append, Nat.sub_zero, ← key]
  simp [madeCells]
theorem read_tys {w : World} {B : Nat} {v : Value} {xs : List TyI} (hm : ∀ s ∈ xs, s.ok) (h : Own w B 31 3 v xs.length (xs.flatMap TyI.cells)) (h' : Hp) (hh' : ∀ b, B ≤ b → h' b = w.heap[b]?) : TyS h' v xs :=
  own_read xs TyI.cells (fun _ _ => rfl) tyR h' hh' (fun x hx => ⟨rfl, hm x hx⟩) (e := 31) (B := B) h
def TysPost (h : Hp) (w : World) (xs : List TyI) (e : Ending) (w' : World) : Prop := ∃ v', e = .returned v' ∧ TyS (ext h w.heap.size w') v' xs ∧ Below w.heap.size w w'
theorem laws_toTyItemS (w : World) (h : Hp) (hs : Sub h w) (v : Value) (xs : List TyI) (hv : TyS h v xs) (hl : xs.length ≤ 1048576) :
    Calls Try.prog 62 #[v] w fun e w' => TysPost h w xs e w' := by
  have hm := Lib.hid hv.mem
  have HV := Lib.hid hv
  obtain ⟨a, c, rfl, hc1, hc2, -⟩ := hv
  unfold maxLen at hc2
  have hlm : xs.length ≤ maxLen := by unfold maxLen; omega
  go_enter Try.func62, Try.ntmps62
  go_wp2_with (first | (at_make; refine make_n Try.underlying23 info_TyItem w rfl _ _ rfl w.heap.size _ _ xs.length rfl rfl rfl rfl (by omega) hlm (Nat.le_refl _) ?_))
  intro w1 hown hb1
  have hz1 := hb1.size
  rw [tySt_zero] at hown
  have hg : w.heap.size < w1.heap.size := (own_parts hown).2.2.2.2.2
  have hsub1 := hs.below hb1
  have HO1 := Lib.hid hown
  clear hown
  go_wp2
  go_loopw [4] (fun i wr => ∃ k : Nat, k ≤ xs.length ∧ i = .int .i64 k ∧ Own wr w.heap.size 31 3 (.slice (some ⟨w.heap.size, 0, none⟩) xs.length xs.length) xs.length (tySt xs k) ∧ Sub h wr ∧ Below w.heap.size w wr) (fun i _ => xs.length - (intOf i).toNat)
  case atStart => exact ⟨0, by omega, rfl, HO1.out, hsub1, hb1⟩
  case round =>
    obtain ⟨k, hk, rfl, hown, hsub, hbel⟩ := hrel
    by_cases hlt : k < xs.length
    · obtain ⟨b, off, rfl, hcell⟩ := HV.out.cell hlt
      obtain ⟨c0, c1, c2⟩ := hcell k hlt wr hsub
      obtain ⟨-, -, hxl, hcs, hfr, hgl⟩ := own_parts hown
      have hnone : h w.heap.size = none := hs.none (Nat.le_refl _)
      have HN := Lib.hid hnone
      have HW := Lib.hid hown
      clear hcell hcs hfr hown hxl hnone
      go_wp2_with fail
      refine (laws_toTyItem _ _ _ _).mono ?_
      rintro e w2 ⟨rfl, hb2⟩
      have HW2 := Lib.hid (own_kept HW.out hb2 (Nat.le_refl _))
      have hz2 := hb2.size
      obtain ⟨-, -, hxl, hcs, hfr, hgl⟩ := own_parts HW2.out
      have f0 := hfr (k * 3)
      have f1 := hfr (k * 3 + 1)
      have f2 := hfr (k * 3 + 2)
      obtain ⟨o0, g0⟩ : ∃ o, w2.cell? ⟨w.heap.size, k * 3, none⟩ = some o := by rw [hcs _ (by rw [hxl]; omega)]; exact ⟨_, List.getElem?_eq_getElem (by rw [hxl]; omega)⟩
      obtain ⟨o1, g1⟩ : ∃ o, w2.cell? ⟨w.heap.size, k * 3 + 1, none⟩ = some o := by rw [hcs _ (by rw [hxl]; omega)]; exact ⟨_, List.getElem?_eq_getElem (by rw [hxl]; omega)⟩
      obtain ⟨o2, g2⟩ : ∃ o, w2.cell? ⟨w.heap.size, k * 3 + 2, none⟩ = some o := by rw [hcs _ (by rw [hxl]; omega)]; exact ⟨_, List.getElem?_eq_getElem (by rw [hxl]; omega)⟩
      have HS := Lib.hid (own_set (own_set (own_set HW2.out (k * 3) (.int .i64 xs[k].v)) (k * 3 + 1) (.string xs[k].name)) (k * 3 + 2) (.int .i64 xs[k].ar))
      have hsub2 := hsub.below hb2
      clear hcs hfr hxl
      go_wp2_with fail
      go_roundw
      case rel => exact ⟨k + 1, by omega, by go_num, by rw [← tySt_succ xs k hlt]; exact HS.out, ((hsub2.setCell HN.out _).setCell HN.out _).setCell HN.out _, (((below_chain hb2 hbel hbel.size).setCell (Nat.le_refl _) _).setCell (Nat.le_refl _) _).setCell (Nat.le_refl _) _⟩
      case measure => simp [intOf]; omega
    · obtain rfl : k = xs.length := by omega
      have HO := Lib.hid (read_tys hm.out (by rw [← tySt_end]; exact hown) (ext h w.heap.size wr) (fun b hb => ext_new hb))
      clear hown
      go_wp2
      go_ret
      exact ⟨_, rfl, HO.out, hbel⟩
theorem below_drewN {B : Nat} {a w : World} (h : Below B a w) (n : Nat) : Below B a (w.drewN n) := ⟨h.os, h.tape, h.output, h.size, h.block⟩
set_option maxRecDepth 100000 in
theorem laws_eqTyItemS (w : World) (h : Hp) (hs : Sub h w) (u v : Value) (xs : List TyI) (hu : TyS h u xs) (hv : TyS h v xs) :
    Calls Try.prog 65 #[u, v] w fun e w' => e = .returned (.bool true) ∧ Below w.heap.size w w' := by
  have HU := Lib.hid hu
  have HV := Lib.hid hv
  obtain ⟨a, c, rfl, hc1, hc2, -⟩ := hu
  obtain ⟨a', c', rfl, hc1', hc2', -⟩ := hv
  unfold maxLen at hc2 hc2'
  go_enter Try.func65, Try.ntmps65
  go_wp2
  go_loopw [5] (fun i wr => ∃ k : Nat, k ≤ xs.length ∧ i = .int .i64 k ∧ Below w.heap.size w wr) (fun i _ => xs.length - (intOf i).toNat)
  case atStart => exact ⟨0, by omega, rfl, Below.refl _ _⟩
  case round =>
    obtain ⟨k, hk, rfl, hbel⟩ := hrel
    by_cases hlt : k < xs.length
    · obtain ⟨b, off, rfl, hcell⟩ := HU.out.cell hlt
      obtain ⟨b', off', rfl, hcell'⟩ := HV.out.cell hlt
      obtain ⟨c0, c1, c2⟩ := hcell k hlt wr (hs.below hbel)
      obtain ⟨d0, d1, d2⟩ := hcell' k hlt wr (hs.below hbel)
      clear hcell hcell'
      go_wp2_with fail
      go_region_law (first | (refine step_guard rfl ?_; go_simp; go_at_call 113; refine (laws_eqTyItem _ _ _ _).mono ?_; rintro e w2 ⟨rfl, hb2⟩; dsimp only; replace hb2 := below_undrew hb2))
      all_goals
        go_wp2
        all_goals
          refine ⟨⟨k + 1, by omega, by go_num, below_chain hb2 hbel hbel.size⟩, ?_⟩
          simp [intOf]; omega
    · go_wp2
      go_ret
      exact ⟨rfl, hbel⟩
theorem laws_szTy (w : World) (h : Hp) (hs : Sub h w) (v : Value) (xs : List TyI) (hv : TyS h v xs) (left : Int) (h0 : 0 ≤ left) (h1 : left ≤ 1048576) :
    Calls Try.prog 15 #[.agg #[v], .int .i64 left] w fun e w' => SzP left xs.length e ∧ Below w.heap.size w w' := by
  go_enter Try.func15, Try.ntmps15
  go_wp2_with fail
  refine (laws_szTyItemS _ h (hs.alloc _) v xs hv left h0 h1).mono ?_
  rintro e w1 ⟨⟨r, rfl, r1, r2, r3⟩, hb1⟩
  by_cases hr : r < 0
  · go_wp2_with fail
    go_ret
    exact ⟨⟨_, rfl, by omega, by omega, by omega⟩, (by repeat (first | with_reducible exact Below.refl _ _ | with_reducible assumption | with_reducible refine Below.setCell ?_ ?_ _ | with_reducible refine Below.alloc ?_ ?_ _ | with_reducible refine Below.drew ?_ | (with_reducible apply below_chain; with_reducible assumption) | exact Nat.le_refl _ | omega | (simp <;> omega)))⟩
  · go_wp2_with fail
    go_ret
    exact ⟨⟨_, rfl, by omega, by omega, fun _ => r3 (by omega)⟩, (by repeat (first | with_reducible exact Below.refl _ _ | with_reducible assumption | with_reducible refine Below.setCell ?_ ?_ _ | with_reducible refine Below.alloc ?_ ?_ _ | with_reducible refine Below.drew ?_ | (with_reducible apply below_chain; with_reducible assumption) | exact Nat.le_refl _ | omega | (simp <;> omega)))⟩
def TyPost (h : Hp) (w : World) (xs : List TyI) (e : Ending) (w' : World) : Prop := ∃ v', e = .returned (.agg #[v']) ∧ TyS (ext h w.heap.size w') v' xs ∧ Below w.heap.size w w'
theorem laws_toTy (w : World) (h : Hp) (hs : Sub h w) (v : Value) (xs : List TyI) (hv : TyS h v xs) (hl : xs.length ≤ 1048576) :
    Calls Try.prog 18 #[.agg #[v]] w fun e w' => TyPost h w xs e w' := by
  have n1 := Lib.hid (hs.none (b := w.heap.size + 1) (by omega))
  have n2 := Lib.hid (hs.none (b := w.heap.size + 1 + 1) (by omega))
  go_enter Try.func18, Try.ntmps18
  go_wp2_with fail
  refine (laws_toTyItemS _ h (by first | exact (((hs.alloc _).alloc _).alloc _) | exact ((hs.alloc _).alloc _) | exact hs.alloc _) v xs hv hl).mono ?_
  rintro e w1 ⟨v', rfl, hv', hb1⟩
  obtain ⟨a', c', rfl, -⟩ := id hv'
  have HV' := Lib.hid hv'
  clear hv'
  obtain ⟨kc1, kf1⟩ := bcell hb1; have kz1 := hb1.size; (try simp at kz1); (first | (refine (fun (kw1_0 : w.heap.size  < w1.heap.size) => ?_) ?_; rotate_left; omega) | skip); (first | (refine (fun (kw1_1 : w.heap.size + 1 < w1.heap.size) => ?_) ?_; rotate_left; omega) | skip); (first | (refine (fun (kw1_2 : w.heap.size + 1 + 1 < w1.heap.size) => ?_) ?_; rotate_left; omega) | skip)
  go_wp2_with fail
  refine bodyPost_ret (v := .agg #[.slice a' xs.length c']) (by simp [results, Try.results18, go_sem, kc1]) rfl ⟨_, rfl, ?_, ?_⟩
  · refine HV'.out.le' (Live.out (B := w.heap.size) ?_)
    refine Live.setCell ?_ ((ext_old (by simp)).trans n1.out) _
    refine Live.setCell ?_ ((ext_old (by simp)).trans n2.out) _
    exact ((((Live.start hs).alloc _).alloc _).alloc _).call hb1 (by simp; omega)
  · exact (by repeat (first | with_reducible exact Below.refl _ _ | with_reducible assumption | with_reducible refine Below.setCell ?_ ?_ _ | with_reducible refine Below.alloc ?_ ?_ _ | with_reducible refine Below.drew ?_ | (with_reducible apply below_chain; with_reducible assumption) | exact Nat.le_refl _ | omega | (simp <;> omega)))
theorem laws_eqTy (w : World) (h : Hp) (hs : Sub h w) (u v : Value) (xs : List TyI) (hu : TyS h u xs) (hv : TyS h v xs) :
    Calls Try.prog 21 #[.agg #[u], .agg #[v]] w fun e w' => e = .returned (.bool true) ∧ Below w.heap.size w w' := by
  go_enter Try.func21, Try.ntmps21
  go_wp2_with fail
  refine (laws_eqTyItemS _ h ((hs.alloc _).alloc _) u v xs hu hv).mono ?_
  rintro e w1 ⟨rfl, hb1⟩
  obtain ⟨kc1, kf1⟩ := bcell hb1; have kz1 := hb1.size; (try simp at kz1); (first | (refine (fun (kw1_0 : w.heap.size  < w1.heap.size) => ?_) ?_; rotate_left; omega) | skip); (first | (refine (fun (kw1_1 : w.heap.size + 1 < w1.heap.size) => ?_) ?_; rotate_left; omega) | skip); (first | (refine (fun (kw1_2 : w.heap.size + 1 + 1 < w1.heap.size) => ?_) ?_; rotate_left; omega) | skip)
  go_wp2_with fail
  go_ret
  exact ⟨rfl, (by repeat (first | with_reducible exact Below.refl _ _ | with_reducible assumption | with_reducible refine Below.setCell ?_ ?_ _ | with_reducible refine Below.alloc ?_ ?_ _ | with_reducible refine Below.drew ?_ | (with_reducible apply below_chain; with_reducible assumption) | exact Nat.le_refl _ | omega | (simp <;> omega)))⟩
end Go.Proofs.Ytngobmjdbjlkcaa

/- TyOk of both texts. -/
namespace Go.Proofs.Ytngobmjdbjlkcaa
set_option linter.unusedVariables false
set_option linter.unusedSimpArgs false
open Go.RowKit Go.ChangeShapes Go.WideShapes
theorem str_lit {x : ByteArray} (y : ByteArray) : (x.toList == y.toList) = decide (x = y) := str_beq x y
theorem spec_l04Item (w : World) (x : TyI) (hx : x.ok) :
    Calls Try.prog 101 #[.agg #[.int .i64 x.v, .string x.name, .int .i64 x.ar]] w fun e w' => e = .returned (.bool (itemM x)) ∧ Below w.heap.size w w' := by
  obtain ⟨v, s, a⟩ := x
  obtain ⟨hv, hs, ha⟩ := hx
  unfold I64 at hv ha
  dsimp only at hv hs ha ⊢
  go_enter Try.func101, Try.ntmps101
  go_wp2_with (first | (go_at_call 115; refine (spec_NameOk _ _ hs).mono ?_; rintro e w1 ⟨rfl, hb1⟩; obtain ⟨kc1, kf1⟩ := bcell hb1; have kz1 := hb1.size; (try simp at kz1); (first | (refine (fun (kw1_0 : w.heap.size  < w1.heap.size) => ?_) ?_; rotate_left; omega) | skip); (first | (refine (fun (kw1_1 : w.heap.size + 1 < w1.heap.size) => ?_) ?_; rotate_left; omega) | skip); (first | (refine (fun (kw1_2 : w.heap.size + 1 + 1 < w1.heap.size) => ?_) ?_; rotate_left; omega) | skip)))
  all_goals
    go_ret
    first
      | exact ⟨ret_b (by grind [itemM]), (by repeat (first | with_reducible exact Below.refl _ _ | with_reducible assumption | with_reducible refine Below.setCell ?_ ?_ _ | with_reducible refine Below.alloc ?_ ?_ _ | with_reducible refine Below.drew ?_ | (with_reducible apply below_chain; with_reducible assumption) | exact Nat.le_refl _ | omega | (simp <;> omega)))⟩
      | skip
theorem impl_tyName (w : World) (x : TyI) (hx : x.ok) (h0 : 0 ≤ x.ar) (h1 : x.ar ≤ 2) (h2 : x.v = 0) (h3 : x.name.toList.isEmpty = false) :
    Calls Try.prog 139 #[.agg #[.int .i64 x.v, .string x.name, .int .i64 x.ar]] w fun e w' => e = .returned (.bool (itemM x)) ∧ Below w.heap.size w w' := by
  obtain ⟨v, s, a⟩ := x
  obtain ⟨hv, hs, ha⟩ := hx
  unfold I64 at hv ha
  dsimp only at hv hs ha h0 h1 h2 h3 ⊢
  subst h2
  go_enter Try.func139, Try.ntmps139
  go_wp2_with (first | (go_at_call 32; refine (impl_NameOk _ _ hs).mono ?_; rintro e w1 ⟨rfl, hb1⟩; obtain ⟨kc1, kf1⟩ := bcell hb1; have kz1 := hb1.size; (try simp at kz1); (first | (refine (fun (kw1_0 : w.heap.size  < w1.heap.size) => ?_) ?_; rotate_left; omega) | skip); (first | (refine (fun (kw1_1 : w.heap.size + 1 < w1.heap.size) => ?_) ?_; rotate_left; omega) | skip); (first | (refine (fun (kw1_2 : w.heap.size + 1 + 1 < w1.heap.size) => ?_) ?_; rotate_left; omega) | skip)))
  all_goals
    go_ret
    first
      | exact ⟨ret_b (by grind [itemM]), (by repeat (first | with_reducible exact Below.refl _ _ | with_reducible assumption | with_reducible refine Below.setCell ?_ ?_ _ | with_reducible refine Below.alloc ?_ ?_ _ | with_reducible refine Below.drew ?_ | (with_reducible apply below_chain; with_reducible assumption) | exact Nat.le_refl _ | omega | (simp <;> omega)))⟩
      | skip
end Go.Proofs.Ytngobmjdbjlkcaa

/- TyOk of both texts: the loops. -/
namespace Go.Proofs.Ytngobmjdbjlkcaa
set_option linter.unusedVariables false
set_option linter.unusedSimpArgs false
open Go.RowKit Go.ChangeShapes Go.WideShapes
theorem ar_zero {ar : Int} (h : (ar != 0) = false) : ar = 0 := by simpa using h
set_option maxRecDepth 100000 in
set_option maxHeartbeats 2000000 in
theorem impl_tyOk (w : World) (h : Hp) (hs : Sub h w) (v : Value) (xs : List TyI) (hv : TyS h v xs) (hl : xs.length ≤ 1000000000) :
    Calls Try.prog 103 #[v] w fun e w' => e = .returned (.bool (tyItemsM xs)) ∧ Below w.heap.size w w' := by
  have hm := Lib.hid hv.mem
  have HV := Lib.hid hv
  obtain ⟨a, c, rfl, hc1, hc2, -⟩ := hv
  unfold maxLen at hc2
  obtain ⟨b, hb⟩ : ∃ b, tyItemsM xs = b := ⟨_, rfl⟩
  rw [hb]
  rw [← restM_start] at hb
  have HB0 := Lib.hid hb
  clear hb
  go_enter Try.func103, Try.ntmps103
  go_wp2
  go_loopw [3, 8] (fun nd i wr => ∃ (k m : Nat), k ≤ xs.length ∧ m ≤ 2 * k + 1 ∧ i = .int .i64 k ∧ nd = .int .i64 m ∧ restM xs k m = b ∧ Below w.heap.size w wr) (fun _ i _ => xs.length - (intOf i).toNat)
  case atStart => exact ⟨0, 1, by omega, by omega, rfl, rfl, HB0.out, Below.refl _ _⟩
  case round =>
    obtain ⟨k, m, hk, hmk, rfl, rfl, hr, hbel⟩ := hrel
    have HR := Lib.hid hr
    clear hr
    by_cases hlt : k < xs.length
    · obtain ⟨bl, off, rfl, hcell⟩ := HV.out.cell hlt
      obtain ⟨c0, c1, c2⟩ := hcell k hlt wr (hs.below hbel)
      have hx := hm.out _ (List.getElem_mem hlt)
      have hbad : ∀ m, restM xs k m = b → itemM xs[k] = false → false = b := fun m e f => (restM_bad xs k m hlt f).symm.trans e
      have hgood : ∀ m, restM xs k (m + 1) = b → itemM xs[k] = true → restM xs (k + 1) (m + xs[k].ar.toNat) = b := fun m e f => (restM_step xs k m hlt f).symm.trans e
      clear hcell
      obtain ⟨x, hxe⟩ : ∃ x, x = xs[k] := ⟨_, rfl⟩
      rw [← hxe] at c0 c1 c2 hx hbad hgood
      clear hxe
      have HX := Lib.hid hx
      obtain ⟨v, s, ar⟩ := x
      obtain ⟨hv, hsz, ha⟩ := hx
      unfold I64 at hv ha
      dsimp only at hv hsz ha c0 c1 c2 hbad hgood
      have HBad := Lib.hid hbad
      have HGood := Lib.hid hgood
      clear hbad hgood
      cases m with
      | zero =>
        go_wp2
        go_ret
        exact ⟨ret_b ((restM_zero xs k hlt).symm.trans HR.out), hbel.alloc hbel.size _⟩
      | succ m =>
        have hb0 : ∀ o, Below w.heap.size w (wr.alloc o) := fun o => hbel.alloc hbel.size o
        have HB1 := Lib.hid hb0
        clear hb0
        by_cases hv0 : v = 0
        · subst hv0
          by_cases hr0 : 0 ≤ ar ∧ ar ≤ 2
          · obtain ⟨r0, r1⟩ := hr0
            have hw : ((ar.toNat : Nat) : Int) = ar := Int.toNat_of_nonneg r0
            go_wp2_with (first | (go_at_call 96; refine (impl_within _ _ _ _).mono ?_; rintro e w' ⟨rfl, rfl⟩) | (go_at_call 139; refine (impl_tyName _ ⟨0, s, ar⟩ HX.out r0 r1 rfl (by assumption)).mono ?_; rintro e w1 ⟨rfl, hb1⟩; obtain ⟨kc1, kf1⟩ := bcell hb1; have kz1 := hb1.size; (try simp at kz1); (first | (refine (fun (kw1_0 : wr.heap.size  < w1.heap.size) => ?_) ?_; rotate_left; omega) | skip); (first | (refine (fun (kw1_1 : wr.heap.size + 1 < w1.heap.size) => ?_) ?_; rotate_left; omega) | skip); (first | (refine (fun (kw1_2 : wr.heap.size + 1 + 1 < w1.heap.size) => ?_) ?_; rotate_left; omega) | skip)))
            all_goals first
              | (go_ret; refine ⟨ret_b (HBad.out (m + 1) HR.out (by grind [itemM])), ?_⟩; first | exact HB1.out _ | exact below_chain hb1 (HB1.out _) (HB1.out _).size)
              | (refine ⟨⟨k + 1, m + ar.toNat, by omega, by omega, by go_num, congrArg (Value.int .i64) (by first | omega | (have := ar_zero (by assumption); omega)), HGood.out m HR.out (by grind [itemM]), ?_⟩, by simp [intOf]; omega⟩; first | exact HB1.out _ | exact below_chain hb1 (HB1.out _) (HB1.out _).size)
              | skip
          · go_wp2_with (first | (go_at_call 96; refine (impl_within _ _ _ _).mono ?_; rintro e w' ⟨rfl, rfl⟩))
            all_goals first
              | (go_ret; exact ⟨ret_b (HBad.out (m + 1) HR.out (by grind [itemM])), HB1.out _⟩)
              | (exfalso; simp_all; done)
              | skip
        · go_wp2_with (first | (go_at_call 96; refine (impl_within _ _ _ _).mono ?_; rintro e w' ⟨rfl, rfl⟩))
          all_goals first
            | (go_ret; exact ⟨ret_b (HBad.out (m + 1) HR.out (by grind [itemM])), HB1.out _⟩)
            | (refine ⟨⟨k + 1, m + ar.toNat, by omega, by first | omega | (have := ar_zero (by assumption); omega), by go_num, congrArg (Value.int .i64) (by first | omega | (have := ar_zero (by assumption); omega)), HGood.out m HR.out (by grind [itemM]), HB1.out _⟩, by simp [intOf]; omega⟩)
            | skip
    · have HE := Lib.hid ((restM_end xs k m (by omega)).symm.trans HR.out)
      by_cases hm0 : m = 0
      · subst hm0
        go_wp2
        go_ret
        exact ⟨ret_b (by rw [← HE.out]; simp), hbel⟩
      · have hm1 : ((m : Int) == 0) = false := by simpa using hm0
        go_wp2
        go_ret
        exact ⟨ret_b (by rw [← HE.out]; simpa using hm0), hbel⟩
end Go.Proofs.Ytngobmjdbjlkcaa

/- l04End: the end of a type that begins at a place. -/
namespace Go.Proofs.Ytngobmjdbjlkcaa
set_option linter.unusedVariables false
set_option linter.unusedSimpArgs false
open Go.RowKit Go.ChangeShapes Go.WideShapes
set_option maxRecDepth 100000 in
set_option maxHeartbeats 2000000 in
theorem spec_l04End : ∀ (n : Nat) (w : World) (h : Hp) (hs : Sub h w) (v : Value) (xs : List TyI) (hv : TyS h v xs) (hit : ∀ x ∈ xs, 0 ≤ x.ar ∧ x.ar ≤ 2) (hl : xs.length ≤ 1000000000) (k : Nat) (hn : xs.length - k ≤ n) (hk : k ≤ xs.length),
    Calls Try.prog 102 #[.agg #[v], .int .i64 k] w fun e w' => e = .returned (.int .i64 (endM xs k)) ∧ Below w.heap.size w w'
  | n, w, h, hs, v, xs, hv, hit, hl, k, hn, hk => by
    have HV := Lib.hid hv
    have HT := Lib.hid hit
    obtain ⟨a, c, rfl, hc1, hc2, -⟩ := hv
    unfold maxLen at hc2
    clear hit
    by_cases hlt : k < xs.length
    · obtain ⟨bl, off, rfl, hcell⟩ := HV.out.cell hlt
      have HC := Lib.hid (hcell k hlt)
      obtain ⟨r0, r1⟩ := HT.out _ (List.getElem_mem hlt)
      have HSt := Lib.hid (endM_step xs k hlt)
      clear hcell
      obtain ⟨x, hxe⟩ : ∃ x, x = xs[k] := ⟨_, rfl⟩
      rw [← hxe] at HC HSt r0 r1
      clear hxe
      have hw : ((x.ar.toNat : Nat) : Int) = x.ar := Int.toNat_of_nonneg r0
      obtain ⟨m, rfl⟩ : ∃ m, n = m + 1 := ⟨n - 1, by omega⟩
      have n1 : ¬ xs.length ≤ k := by omega
      have n2 : ¬ (k : Int) < 0 := by omega
      have n3 : ¬ (xs.length : Int) ≤ (k : Int) := by omega
      go_enter Try.func102, Try.ntmps102
      go_wp2
      go_loopw [5, 6] (fun nx i wr => ∃ (j : Nat), j ≤ x.ar.toNat ∧ i = .int .i64 j ∧ nx = .int .i64 (endsM xs (k + 1) j) ∧ Below (w.alloc (.cells #[.slice (some ⟨bl, off, none⟩) xs.length c] 25)).heap.size (w.alloc (.cells #[.slice (some ⟨bl, off, none⟩) xs.length c] 25)) wr) (fun _ i _ => x.ar.toNat - (intOf i).toNat)
      case atStart => exact ⟨0, by omega, rfl, by rw [endsM_zero]; rfl, Below.refl _ _⟩
      case round =>
        obtain ⟨j, hj, rfl, rfl, hbel⟩ := hrel
        have hsub : Sub h wr := (hs.alloc _).below hbel
        obtain ⟨c0, c1, c2⟩ := HC.out wr hsub
        obtain ⟨kc, kf⟩ := bcell hbel
        have kb := kc w.heap.size 0 (by simp)
        rw [new_cell0] at kb
        have HBel := Lib.hid hbel
        have hb0 := Lib.hid (below_chain hbel ((Below.refl w.heap.size w).alloc (Nat.le_refl _) _) (by simp))
        clear kc kf hbel
        have HX := Lib.hid (endsM_neg xs (k + 1) j)
        by_cases hja : j < x.ar.toNat
        · have hja' : (j : Int) < x.ar := by omega
          rcases endsM_bd xs (k + 1) j hlt with he | ⟨q, he, hq0, hq1⟩
          · have HE := Lib.hid (HX.out (by omega) x.ar.toNat (by omega))
            rw [he]
            go_wp2_with fail
            go_ret
            exact ⟨ret_n (by rw [HSt.out, HE.out]), hb0.out⟩
          · have HE := Lib.hid (endsM_succ xs (k + 1) j q he)
            rw [he]
            have ih := spec_l04End m wr h hsub _ xs HV.out HT.out hl q (by omega) hq1
            go_wp2_with (first | (go_at_call 102; refine ih.mono ?_; rintro e w2 ⟨rfl, hb2⟩))
            go_roundw
            case rel => exact ⟨j + 1, by omega, by go_num, by rw [HE.out], below_chain hb2 HBel.out HBel.out.size⟩
            case measure => simp [intOf]; omega
        · have hja' : ¬ (j : Int) < x.ar := by omega
          obtain rfl : j = x.ar.toNat := by omega
          go_wp2_with fail
          go_ret
          exact ⟨ret_n (by rw [HSt.out]), hb0.out⟩
    · have HE := Lib.hid (endM_end xs k (by omega))
      go_enter Try.func102, Try.ntmps102
      go_wp2
      go_ret
      exact ⟨ret_n (by rw [HE.out]), (by repeat (first | with_reducible exact Below.refl _ _ | with_reducible assumption | with_reducible refine Below.setCell ?_ ?_ _ | with_reducible refine Below.alloc ?_ ?_ _ | with_reducible refine Below.drew ?_ | (with_reducible apply below_chain; with_reducible assumption) | exact Nat.le_refl _ | omega | (simp <;> omega)))⟩
termination_by n => n
decreasing_by all_goals omega
end Go.Proofs.Ytngobmjdbjlkcaa

/- TyOk of both texts, whole. -/
namespace Go.Proofs.Ytngobmjdbjlkcaa
set_option linter.unusedVariables false
set_option linter.unusedSimpArgs false
open Go.RowKit Go.ChangeShapes Go.WideShapes
theorem impl_TyOk (w : World) (h : Hp) (hs : Sub h w) (v : Value) (xs : List TyI) (hv : TyS h v xs) (hl : xs.length ≤ 1000000000) :
    Calls Try.prog 48 #[.agg #[v]] w fun e w' => e = .returned (.bool (tyOkM xs)) ∧ Below w.heap.size w w' := by
  have HV := Lib.hid hv
  obtain ⟨a, c, rfl, hc1, hc2, -⟩ := hv
  unfold maxLen at hc2
  obtain ⟨b, hb⟩ : ∃ b, tyItemsM xs = b := ⟨_, rfl⟩
  have hk := fun (w : World) (hs : Sub h w) => impl_tyOk w h hs _ xs HV.out hl
  by_cases h200 : xs.length ≤ 200
  · have h2 : (xs.length : Int) ≤ 200 := by omega
    have HA : tyOkM xs = b := by unfold tyOkM; rw [hb, decide_eq_true h200]; rfl
    rw [HA]
    rw [hb] at hk
    have HK := Lib.hid hk
    clear hk HA hb
    go_enter Try.func48, Try.ntmps48
    go_wp2_with (first | (go_at_call 103; refine (HK.out _ (hs.alloc _)).mono ?_; rintro e w1 ⟨rfl, hb1⟩; obtain ⟨kc1, kf1⟩ := bcell hb1; have kz1 := hb1.size; (try simp at kz1); (first | (refine (fun (kw1_0 : w.heap.size  < w1.heap.size) => ?_) ?_; rotate_left; omega) | skip); (first | (refine (fun (kw1_1 : w.heap.size + 1 < w1.heap.size) => ?_) ?_; rotate_left; omega) | skip); (first | (refine (fun (kw1_2 : w.heap.size + 1 + 1 < w1.heap.size) => ?_) ?_; rotate_left; omega) | skip)))
    go_ret
    exact ⟨rfl, (by repeat (first | with_reducible exact Below.refl _ _ | with_reducible assumption | with_reducible refine Below.setCell ?_ ?_ _ | with_reducible refine Below.alloc ?_ ?_ _ | with_reducible refine Below.drew ?_ | (with_reducible apply below_chain; with_reducible assumption) | exact Nat.le_refl _ | omega | (simp <;> omega)))⟩
  · have h2 : ¬ (xs.length : Int) ≤ 200 := by omega
    have HA : tyOkM xs = false := by unfold tyOkM; rw [decide_eq_false h200]; rfl
    rw [HA]
    clear hk HA hb
    go_enter Try.func48, Try.ntmps48
    go_wp2
    go_ret
    exact ⟨rfl, (by repeat (first | with_reducible exact Below.refl _ _ | with_reducible assumption | with_reducible refine Below.setCell ?_ ?_ _ | with_reducible refine Below.alloc ?_ ?_ _ | with_reducible refine Below.drew ?_ | (with_reducible apply below_chain; with_reducible assumption) | exact Nat.le_refl _ | omega | (simp <;> omega)))⟩
theorem items_arO {xs : List TyI} (h : xs.all itemM = true) : ∀ x ∈ xs, 0 ≤ x.ar ∧ x.ar ≤ 2 := fun x hx => itemM_ar (List.all_eq_true.1 h x hx)
theorem all_falseO {xs : List TyI} {k : Nat} (h : k < xs.length) (hb : itemM xs[k] = false) : tyOkM xs = false := by
  have : xs.all itemM = false := by
    rw [List.all_eq_false]
    exact ⟨_, List.getElem_mem h, by simp [hb]⟩
  unfold tyOkM tyItemsM
  rw [this]; simp
theorem all_take_succO {xs : List TyI} {k : Nat} (h : k < xs.length) (ha : (xs.take k).all itemM = true) (hb : itemM xs[k] = true) : (xs.take (k + 1)).all itemM = true := by
  rw [List.take_succ_eq_append_getElem h, List.all_append, ha]; simp [hb]
set_option maxRecDepth 100000 in
set_option maxHeartbeats 2000000 in
theorem spec_TyOk (w : World) (h : Hp) (hs : Sub h w) (v : Value) (xs : List TyI) (hv : TyS h v xs) (hl : xs.length ≤ 1000000000) :
    Calls Try.prog 47 #[.agg #[v]] w fun e w' => e = .returned (.bool (tyOkM xs)) ∧ Below w.heap.size w w' := by
  have hm := Lib.hid hv.mem
  have HV := Lib.hid hv
  obtain ⟨a, c, rfl, hc1, hc2, -⟩ := hv
  unfold maxLen at hc2
  by_cases h200 : 200 < xs.length
  · have h2 : (xs.length : Int) > 200 := by omega
    have HA : tyOkM xs = false := by unfold tyOkM; rw [decide_eq_false (by omega)]; rfl
    rw [HA]
    clear HA
    go_enter Try.func47, Try.ntmps47
    go_wp2
    go_ret
    exact ⟨rfl, (by repeat (first | with_reducible exact Below.refl _ _ | with_reducible assumption | with_reducible refine Below.setCell ?_ ?_ _ | with_reducible refine Below.alloc ?_ ?_ _ | with_reducible refine Below.drew ?_ | (with_reducible apply below_chain; with_reducible assumption) | exact Nat.le_refl _ | omega | (simp <;> omega)))⟩
  · have h2 : ¬ (xs.length : Int) > 200 := by omega
    go_enter Try.func47, Try.ntmps47
    go_wp2
    go_loopw [12] (fun i wr => ∃ (k : Nat), k ≤ xs.length ∧ i = .int .i64 k ∧ (xs.take k).all itemM = true ∧ Below (w.alloc (.cells #[.slice a xs.length c] 25)).heap.size (w.alloc (.cells #[.slice a xs.length c] 25)) wr) (fun i _ => xs.length - (intOf i).toNat)
    case atStart => exact ⟨0, by omega, rfl, rfl, Below.refl _ _⟩
    case round =>
      obtain ⟨k, hk, rfl, hall, hbel⟩ := hrel
      have hsub : Sub h wr := (hs.alloc _).below hbel
      obtain ⟨kc, kf⟩ := bcell hbel
      have kb := kc w.heap.size 0 (by simp)
      rw [new_cell0] at kb
      have HBel := Lib.hid hbel
      have hb0 := Lib.hid (below_chain hbel ((Below.refl w.heap.size w).alloc (Nat.le_refl _) _) (by simp))
      have HAll := Lib.hid hall
      clear kc kf hbel hall
      by_cases hlt : k < xs.length
      · obtain ⟨bl, off, rfl, hcell⟩ := HV.out.cell hlt
        obtain ⟨c0, c1, c2⟩ := hcell k hlt wr hsub
        have HX := Lib.hid (hm.out _ (List.getElem_mem hlt))
        have HF := Lib.hid (all_falseO hlt)
        have HT := Lib.hid (all_take_succO hlt HAll.out)
        clear hcell
        cases hi : itemM xs[k]
        · have HI := Lib.hid hi
          go_wp2_with (first | (go_at_call 101; refine (spec_l04Item _ _ HX.out).mono ?_; rw [HI.out]; rintro e w2 ⟨rfl, hb2⟩))
          go_ret
          exact ⟨ret_b (HF.out HI.out).symm, below_chain hb2 (hb0.out.alloc hb0.out.size _) (hb0.out.alloc hb0.out.size _).size⟩
        · have HI := Lib.hid hi
          clear hi
          go_wp2_with (first | (go_at_call 101; refine (spec_l04Item _ _ HX.out).mono ?_; rw [HI.out]; rintro e w2 ⟨rfl, hb2⟩))
          refine ⟨⟨k + 1, by omega, by go_num, HT.out HI.out, below_chain hb2 (HBel.out.alloc HBel.out.size _) (HBel.out.alloc HBel.out.size _).size⟩, ?_⟩
          simp [intOf]; omega
      · obtain rfl : k = xs.length := by omega
        have ha : xs.all itemM = true := by have := HAll.out; rwa [List.take_length] at this
        have HE := Lib.hid (fun (wx : World) (hsx : Sub h wx) => spec_l04End xs.length wx h hsx _ xs HV.out (items_arO ha) hl 0 (by omega) (by omega))
        have HA : tyOkM xs = (endM xs 0 == (xs.length : Int)) := by
          unfold tyOkM tyItemsM
          rw [decide_eq_true (by omega), ha]
          simp [Bool.beq_eq_decide_eq]
        have HA' := Lib.hid HA
        clear HA ha
        go_wp2
        go_region_law (first | (refine step_guard rfl ?_; go_simp; go_at_call 102; refine (HE.out _ (by exact hsub)).mono ?_; rintro e w2 ⟨rfl, hb2⟩; dsimp only; replace hb2 := below_undrew hb2; have kb2 := cell_kept hb2 kb))
        all_goals
          go_wp2
          all_goals
            go_ret
            exact ⟨ret_b HA'.out.symm, below_chain hb2 hb0.out hb0.out.size⟩
end Go.Proofs.Ytngobmjdbjlkcaa
