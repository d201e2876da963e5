/- Slices of items: szTyItemS, toTyItemS, eqTyItemS. -/
import Derived.Test.YtmopjpnghomdfaaTy
import Derived.Deep.RegionLaw
import Derived.Test.YtmopjpnghomdfaaSteps
namespace Go.Proofs.Ytmopjpnghomdfaa
set_option linter.unusedVariables false
set_option linter.unusedSimpArgs false
open Go.RowKit Go.ChangeShapes Go.WideShapes
def SzP (left n : Int) (e : Ending) : Prop := ∃ r : Int, e = .returned (.int .i64 r) ∧ -1 ≤ r ∧ r ≤ left ∧ (0 ≤ r → n ≤ left)
theorem laws_szTyItemS (w : World) (h : Hp) (hs : Sub h w) (v : Value) (xs : List TyI) (hv : TyS h v xs) (left : Int) (h0 : 0 ≤ left) (h1 : left ≤ 1048576) :
    Calls Try.prog 51 #[v, .int .i64 left] w fun e w' => SzP left xs.length e ∧ Below w.heap.size w w' := by
  have hm := hv.mem
  have HV := Lib.hid hv
  obtain ⟨a, c, rfl, hc1, hc2, -⟩ := hv
  unfold maxLen at hc2
  by_cases hl : left < xs.length
  · go_enter Try.func51, Try.ntmps51
    go_wp2
    go_ret
    exact ⟨⟨_, rfl, by omega, by omega, by omega⟩, Below.refl _ _⟩
  · go_enter Try.func51, Try.ntmps51
    go_wp2
    go_loopw [1, 5] (fun lv i wr => ∃ (k : Nat) (r : Int), i = .int .i64 k ∧ lv = .int .i64 r ∧ k ≤ xs.length ∧ 0 ≤ r ∧ r ≤ left ∧ Below w.heap.size w wr) (fun _ i _ => xs.length - (intOf i).toNat)
    case atStart => exact ⟨0, _, rfl, rfl, by omega, by omega, by omega, Below.refl _ _⟩
    case round =>
      obtain ⟨k, r, rfl, rfl, hk, hr0, hr1, hbel⟩ := hrel
      by_cases hlt : k < xs.length
      · obtain ⟨b, off, rfl, hcell⟩ := HV.out.cell hlt
        obtain ⟨c0, c1, c2⟩ := hcell k hlt wr (hs.below hbel)
        obtain ⟨-, hz, -⟩ := hm _ (List.getElem_mem hlt)
        have HZ := Lib.hid hz
        clear hcell hz
        by_cases hb : r < xs[k].name.size
        · go_wp2_with (first | (go_at_call 81; refine (laws_szTyItem _ _ _ _ HZ.out r hr0 (by omega)).mono ?_; rw [if_pos hb]; rintro e w1 ⟨rfl, hb1⟩))
          go_ret
          exact ⟨⟨_, rfl, by omega, by omega, by omega⟩, below_chain hb1 hbel hbel.size⟩
        · go_wp2_with (first | (go_at_call 81; refine (laws_szTyItem _ _ _ _ HZ.out r hr0 (by omega)).mono ?_; rw [if_neg hb]; rintro e w1 ⟨rfl, hb1⟩))
          go_roundw
          case rel => exact ⟨k + 1, r - xs[k].name.size, by go_num, rfl, by omega, by omega, by omega, below_chain hb1 hbel hbel.size⟩
          case measure => simp [intOf]; omega
      · go_wp2
        go_ret
        exact ⟨⟨_, rfl, by omega, by omega, by omega⟩, hbel⟩
theorem info_TyItem : (Try.prog.info? 44).map (fun i => (i.zero, i.size, i.bytes)) = some (some (.agg #[.int .i64 0, .string ByteArray.empty, .int .i64 0]), 3, 32) := by kernel_rfl
def tyZ : TyI := ⟨0, ByteArray.empty, 0⟩
def tySt (xs : List TyI) (k : Nat) : List Value := (xs.take k ++ List.replicate (xs.length - k) tyZ).flatMap TyI.cells
theorem tySt_end (xs : List TyI) : tySt xs xs.length = xs.flatMap TyI.cells := by simp [tySt]
theorem flat3_set : ∀ (l : List TyI) (k : Nat) (x : TyI), k < l.length → ((((l.flatMap TyI.cells).set (k * 3) (.int .i64 x.v)).set (k * 3 + 1) (.string x.name)).set (k * 3 + 2) (.int .i64 x.ar)) = (l.set k x).flatMap TyI.cells
  | [], _, _, h => by simp at h
  | y :: l, 0, x, _ => rfl
  | y :: l, k + 1, x, h => by
    have ih := flat3_set l k x (by simpa using h)
    rw [List.set_cons_succ, List.flatMap_cons, List.flatMap_cons, ← ih]
    rw [show (k + 1) * 3 = k * 3 + 3 by omega]
    simp only [TyI.cells, List.cons_append, List.nil_append, List.set_cons_succ, show k * 3 + 3 + 1 = k * 3 + 1 + 3 by omega, show k * 3 + 3 + 2 = k * 3 + 2 + 3 by omega]
theorem tySt_succ (xs : List TyI) (k : Nat) (h : k < xs.length) : ((((tySt xs k).set (k * 3) (.int .i64 xs[k].v)).set (k * 3 + 1) (.string xs[k].name)).set (k * 3 + 2) (.int .i64 xs[k].ar)) = tySt xs (k + 1) := by
  unfold tySt
  rw [flat3_set _ _ _ (by simp; omega)]
  congr 1
  rw [List.take_succ_eq_append_getElem h, show xs.length - k = (xs.length - (k + 1)) + 1 by omega, List.replicate_succ]
  have hl : (xs.take k).length = k := by simp; omega
  rw [List.set_append_right _ _ (by omega), hl]
  simp only [Nat.sub_self, List.set_cons_zero, List.append_assoc, List.cons_append, List.nil_append]
theorem tySt_zero (xs : List TyI) : (madeCells #[.int .i64 0, .string ByteArray.empty, .int .i64 0] (xs.length * 3)).toList = tySt xs 0 := by
  have key : ∀ n : Nat, (List.range (n * 3)).map (fun j => (#[Value.int .i64 0, .string ByteArray.empty, .int .i64 0] : Array Value)[j % 3]!) = (List.replicate n tyZ).flatMap TyI.cells := by
    intro n
    induction n with
    | zero => rfl
    | succ n ih =>
      rw [List.replicate_succ', List.flatMap_append, ← ih, show (n + 1) * 3 = n * 3 + 1 + 1 + 1 by omega, List.range_succ, List.range_succ, List.range_succ]
      simp [tyZ, TyI.cells, Nat.add_assoc, show (n * 3 + 1) % 3 = 1 by omega, show (n * 3 + 2) % 3 = 2 by omega]
  unfold tySt
  rw [List.take_zero, List.nil_append, Nat.sub_zero, ← key]
  simp [madeCells]
theorem read_tys {w : World} {B : Nat} {v : Value} {xs : List TyI} (hm : ∀ s ∈ xs, s.ok) (h : Own w B 44 3 v xs.length (xs.flatMap TyI.cells)) (h' : Hp) (hh' : ∀ b, B ≤ b → h' b = w.heap[b]?) : TyS h' v xs :=
  own_read xs TyI.cells (fun _ _ => rfl) tyR h' hh' (fun x hx => ⟨rfl, hm x hx⟩) (e := 44) (B := B) h
def TysPost (h : Hp) (w : World) (xs : List TyI) (e : Ending) (w' : World) : Prop := ∃ v', e = .returned v' ∧ TyS (ext h w.heap.size w') v' xs ∧ Below w.heap.size w w'
theorem laws_toTyItemS (w : World) (h : Hp) (hs : Sub h w) (v : Value) (xs : List TyI) (hv : TyS h v xs) (hl : xs.length ≤ 1048576) :
    Calls Try.prog 53 #[v] w fun e w' => TysPost h w xs e w' := by
  have hm := Lib.hid hv.mem
  have HV := Lib.hid hv
  obtain ⟨a, c, rfl, hc1, hc2, -⟩ := hv
  unfold maxLen at hc2
  have hlm : xs.length ≤ maxLen := by unfold maxLen; omega
  go_enter Try.func53, Try.ntmps53
  go_wp2_with (first | (at_make; refine make_n Try.underlying34 info_TyItem w rfl _ _ rfl w.heap.size _ _ xs.length rfl rfl rfl rfl (by omega) hlm (Nat.le_refl _) ?_))
  intro w1 hown hb1
  have hz1 := hb1.size
  rw [tySt_zero] at hown
  have hg : w.heap.size < w1.heap.size := (own_parts hown).2.2.2.2.2
  have hsub1 := hs.below hb1
  have HO1 := Lib.hid hown
  clear hown
  go_wp2
  go_loopw [4] (fun i wr => ∃ k : Nat, k ≤ xs.length ∧ i = .int .i64 k ∧ Own wr w.heap.size 44 3 (.slice (some ⟨w.heap.size, 0, none⟩) xs.length xs.length) xs.length (tySt xs k) ∧ Sub h wr ∧ Below w.heap.size w wr) (fun i _ => xs.length - (intOf i).toNat)
  case atStart => exact ⟨0, by omega, rfl, HO1.out, hsub1, hb1⟩
  case round =>
    obtain ⟨k, hk, rfl, hown, hsub, hbel⟩ := hrel
    by_cases hlt : k < xs.length
    · obtain ⟨b, off, rfl, hcell⟩ := HV.out.cell hlt
      obtain ⟨c0, c1, c2⟩ := hcell k hlt wr hsub
      obtain ⟨-, -, hxl, hcs, hfr, hgl⟩ := own_parts hown
      have hnone : h w.heap.size = none := hs.none (Nat.le_refl _)
      have HN := Lib.hid hnone
      have HW := Lib.hid hown
      clear hcell hcs hfr hown hxl hnone
      go_wp2_with fail
      refine (laws_toTyItem _ _ _ _).mono ?_
      rintro e w2 ⟨rfl, hb2⟩
      have HW2 := Lib.hid (own_kept HW.out hb2 (Nat.le_refl _))
      have hz2 := hb2.size
      obtain ⟨-, -, hxl, hcs, hfr, hgl⟩ := own_parts HW2.out
      have f0 := hfr (k * 3)
      have f1 := hfr (k * 3 + 1)
      have f2 := hfr (k * 3 + 2)
      obtain ⟨o0, g0⟩ : ∃ o, w2.cell? ⟨w.heap.size, k * 3, none⟩ = some o := by rw [hcs _ (by rw [hxl]; omega)]; exact ⟨_, List.getElem?_eq_getElem (by rw [hxl]; omega)⟩
      obtain ⟨o1, g1⟩ : ∃ o, w2.cell? ⟨w.heap.size, k * 3 + 1, none⟩ = some o := by rw [hcs _ (by rw [hxl]; omega)]; exact ⟨_, List.getElem?_eq_getElem (by rw [hxl]; omega)⟩
      obtain ⟨o2, g2⟩ : ∃ o, w2.cell? ⟨w.heap.size, k * 3 + 2, none⟩ = some o := by rw [hcs _ (by rw [hxl]; omega)]; exact ⟨_, List.getElem?_eq_getElem (by rw [hxl]; omega)⟩
      have HS := Lib.hid (own_set (own_set (own_set HW2.out (k * 3) (.int .i64 xs[k].v)) (k * 3 + 1) (.string xs[k].name)) (k * 3 + 2) (.int .i64 xs[k].ar))
      have hsub2 := hsub.below hb2
      clear hcs hfr hxl
      go_wp2_with fail
      go_roundw
      case rel => exact ⟨k + 1, by omega, by go_num, by rw [← tySt_succ xs k hlt]; exact HS.out, ((hsub2.setCell HN.out _).setCell HN.out _).setCell HN.out _, (((below_chain hb2 hbel hbel.size).setCell (Nat.le_refl _) _).setCell (Nat.le_refl _) _).setCell (Nat.le_refl _) _⟩
      case measure => simp [intOf]; omega
    · obtain rfl : k = xs.length := by omega
      have HO := Lib.hid (read_tys hm.out (by rw [← tySt_end]; exact hown) (ext h w.heap.size wr) (fun b hb => ext_new hb))
      clear hown
      go_wp2
      go_ret
      exact ⟨_, rfl, HO.out, hbel⟩
theorem below_drewN {B : Nat} {a w : World} (h : Below B a w) (n : Nat) : Below B a (w.drewN n) := ⟨h.os, h.tape, h.output, h.size, h.block⟩
set_option maxRecDepth 100000 in
theorem laws_eqTyItemS (w : World) (h : Hp) (hs : Sub h w) (u v : Value) (xs : List TyI) (hu : TyS h u xs) (hv : TyS h v xs) :
    Calls Try.prog 56 #[u, v] w fun e w' => e = .returned (.bool true) ∧ Below w.heap.size w w' := by
  have HU := Lib.hid hu
  have HV := Lib.hid hv
  obtain ⟨a, c, rfl, hc1, hc2, -⟩ := hu
  obtain ⟨a', c', rfl, hc1', hc2', -⟩ := hv
  unfold maxLen at hc2 hc2'
  go_enter Try.func56, Try.ntmps56
  go_wp2
  go_loopw [5] (fun i wr => ∃ k : Nat, k ≤ xs.length ∧ i = .int .i64 k ∧ Below w.heap.size w wr) (fun i _ => xs.length - (intOf i).toNat)
  case atStart => exact ⟨0, by omega, rfl, Below.refl _ _⟩
  case round =>
    obtain ⟨k, hk, rfl, hbel⟩ := hrel
    by_cases hlt : k < xs.length
    · obtain ⟨b, off, rfl, hcell⟩ := HU.out.cell hlt
      obtain ⟨b', off', rfl, hcell'⟩ := HV.out.cell hlt
      obtain ⟨c0, c1, c2⟩ := hcell k hlt wr (hs.below hbel)
      obtain ⟨d0, d1, d2⟩ := hcell' k hlt wr (hs.below hbel)
      clear hcell hcell'
      go_wp2_with fail
      go_region_law (first | (refine step_guard rfl ?_; go_simp; go_at_call 85; refine (laws_eqTyItem _ _ _ _).mono ?_; rintro e w2 ⟨rfl, hb2⟩; dsimp only; replace hb2 := below_undrew hb2))
      all_goals
        go_wp2
        all_goals
          refine ⟨⟨k + 1, by omega, by go_num, below_chain hb2 hbel hbel.size⟩, ?_⟩
          simp [intOf]; omega
    · go_wp2
      go_ret
      exact ⟨rfl, hbel⟩
theorem laws_szTy (w : World) (h : Hp) (hs : Sub h w) (v : Value) (xs : List TyI) (hv : TyS h v xs) (left : Int) (h0 : 0 ≤ left) (h1 : left ≤ 1048576) :
    Calls Try.prog 16 #[.agg #[v], .int .i64 left] w fun e w' => SzP left xs.length e ∧ Below w.heap.size w w' := by
  go_enter Try.func16, Try.ntmps16
  go_wp2_with fail
  refine (laws_szTyItemS _ h (hs.alloc _) v xs hv left h0 h1).mono ?_
  rintro e w1 ⟨⟨r, rfl, r1, r2, r3⟩, hb1⟩
  by_cases hr : r < 0
  · go_wp2_with fail
    go_ret
    exact ⟨⟨_, rfl, by omega, by omega, by omega⟩, (by repeat (first | with_reducible exact Below.refl _ _ | with_reducible assumption | with_reducible refine Below.setCell ?_ ?_ _ | with_reducible refine Below.alloc ?_ ?_ _ | with_reducible refine Below.drew ?_ | (with_reducible apply below_chain; with_reducible assumption) | exact Nat.le_refl _ | omega | (simp <;> omega)))⟩
  · go_wp2_with fail
    go_ret
    exact ⟨⟨_, rfl, by omega, by omega, fun _ => r3 (by omega)⟩, (by repeat (first | with_reducible exact Below.refl _ _ | with_reducible assumption | with_reducible refine Below.setCell ?_ ?_ _ | with_reducible refine Below.alloc ?_ ?_ _ | with_reducible refine Below.drew ?_ | (with_reducible apply below_chain; with_reducible assumption) | exact Nat.le_refl _ | omega | (simp <;> omega)))⟩
def TyPost (h : Hp) (w : World) (xs : List TyI) (e : Ending) (w' : World) : Prop := ∃ v', e = .returned (.agg #[v']) ∧ TyS (ext h w.heap.size w') v' xs ∧ Below w.heap.size w w'
theorem laws_toTy (w : World) (h : Hp) (hs : Sub h w) (v : Value) (xs : List TyI) (hv : TyS h v xs) (hl : xs.length ≤ 1048576) :
    Calls Try.prog 18 #[.agg #[v]] w fun e w' => TyPost h w xs e w' := by
  have n1 := Lib.hid (hs.none (b := w.heap.size + 1) (by omega))
  have n2 := Lib.hid (hs.none (b := w.heap.size + 1 + 1) (by omega))
  go_enter Try.func18, Try.ntmps18
  go_wp2_with fail
  refine (laws_toTyItemS _ h (by first | exact (((hs.alloc _).alloc _).alloc _) | exact ((hs.alloc _).alloc _) | exact hs.alloc _) v xs hv hl).mono ?_
  rintro e w1 ⟨v', rfl, hv', hb1⟩
  obtain ⟨a', c', rfl, -⟩ := id hv'
  have HV' := Lib.hid hv'
  clear hv'
  obtain ⟨kc1, kf1⟩ := bcell hb1; have kz1 := hb1.size; (try simp at kz1); (first | (refine (fun (kw1_0 : w.heap.size  < w1.heap.size) => ?_) ?_; rotate_left; omega) | skip); (first | (refine (fun (kw1_1 : w.heap.size + 1 < w1.heap.size) => ?_) ?_; rotate_left; omega) | skip); (first | (refine (fun (kw1_2 : w.heap.size + 1 + 1 < w1.heap.size) => ?_) ?_; rotate_left; omega) | skip)
  go_wp2_with fail
  refine bodyPost_ret (v := .agg #[.slice a' xs.length c']) (by simp [results, Try.results18, go_sem, kc1]) rfl ⟨_, rfl, ?_, ?_⟩
  · refine HV'.out.le' (Live.out (B := w.heap.size) ?_)
    refine Live.setCell ?_ ((ext_old (by simp)).trans n1.out) _
    refine Live.setCell ?_ ((ext_old (by simp)).trans n2.out) _
    exact ((((Live.start hs).alloc _).alloc _).alloc _).call hb1 (by simp; omega)
  · exact (by repeat (first | with_reducible exact Below.refl _ _ | with_reducible assumption | with_reducible refine Below.setCell ?_ ?_ _ | with_reducible refine Below.alloc ?_ ?_ _ | with_reducible refine Below.drew ?_ | (with_reducible apply below_chain; with_reducible assumption) | exact Nat.le_refl _ | omega | (simp <;> omega)))
theorem laws_eqTy (w : World) (h : Hp) (hs : Sub h w) (u v : Value) (xs : List TyI) (hu : TyS h u xs) (hv : TyS h v xs) :
    Calls Try.prog 20 #[.agg #[u], .agg #[v]] w fun e w' => e = .returned (.bool true) ∧ Below w.heap.size w w' := by
  go_enter Try.func20, Try.ntmps20
  go_wp2_with fail
  refine (laws_eqTyItemS _ h ((hs.alloc _).alloc _) u v xs hu hv).mono ?_
  rintro e w1 ⟨rfl, hb1⟩
  obtain ⟨kc1, kf1⟩ := bcell hb1; have kz1 := hb1.size; (try simp at kz1); (first | (refine (fun (kw1_0 : w.heap.size  < w1.heap.size) => ?_) ?_; rotate_left; omega) | skip); (first | (refine (fun (kw1_1 : w.heap.size + 1 < w1.heap.size) => ?_) ?_; rotate_left; omega) | skip); (first | (refine (fun (kw1_2 : w.heap.size + 1 + 1 < w1.heap.size) => ?_) ?_; rotate_left; omega) | skip)
  go_wp2_with fail
  go_ret
  exact ⟨rfl, (by repeat (first | with_reducible exact Below.refl _ _ | with_reducible assumption | with_reducible refine Below.setCell ?_ ?_ _ | with_reducible refine Below.alloc ?_ ?_ _ | with_reducible refine Below.drew ?_ | (with_reducible apply below_chain; with_reducible assumption) | exact Nat.le_refl _ | omega | (simp <;> omega)))⟩
end Go.Proofs.Ytmopjpnghomdfaa
