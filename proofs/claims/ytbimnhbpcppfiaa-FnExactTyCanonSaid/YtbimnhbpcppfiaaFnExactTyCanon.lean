/-
  Proved: the statement 'Rows.FnExactTyCanonSaid': for every input the law 'FnExactTyCanon' returns true and leaves its arguments as they were; no further condition.
-/
import Derived.Test.YtbimnhbpcppfiaaRows
import Derived.WalkKit
import Derived.ProofKit
import Derived.OpenShut
import Derived.ShutString
import Derived.ChangeOld
import Derived.Below
import Derived.Test.YtbimnhbpcppfiaaClosed
import Derived.Test.YtbimnhbpcppfiaaCanonT
namespace Go.Proofs.Ytbimnhbpcppfiaa.fnExactTyCanon
open Go.ChangeShapes Go.WideShapes Go.ChangeAt Go.RowKit
open Go.ChangeMaps (open_string shut_string)
set_option linter.unusedVariables false

theorem own : ownKnob Try.prog.godebug = none := cl_own
theorem laidOut : laidOutB Try.prog = true := cl_1
theorem agg_of {P : Program} {W : World} {r : Reach} {b : Nat} {t : TypeId} {fs : Array Field} {v : Value} (hu : P.underlying t = some (.struct fs)) (o : Value.okWide P W r b t v) : ∃ cs, v = .agg cs ∧ v.cells.toList = cs.toList := by
  obtain ⟨cs, rfl, _⟩ := okWide_struct hu o
  exact ⟨cs, rfl, rfl⟩

/-! ### the walk -/
set_option maxRecDepth 100000 in
set_option maxHeartbeats 1000000 in
theorem walk {H : Type} {enc : TypeId × Value → H} {base : Nat} (w : World) (v0 : Value) (d0 : DataW H) (p0 : List MemPlace) (k0 : DataW.Trod enc Try.prog w 0 (fun _ => true) true 24 v0 d0 p0) (o0 : Value.okWide Try.prog w .any base 24 v0) :
    Calls Try.prog 3 #[v0] w fun e w' => e = .returned (.bool true) ∧ Below w.heap.size w w' := by
  obtain ⟨v, x0, rfl, hv0⟩ : ∃ (v : Value) (xs : List TyI), v0 = .agg #[v] ∧ TyS (hp w) v xs := by
    obtain ⟨cs, rfl, hc⟩ := agg_of Try.underlying24 o0
    obtain ⟨fuel, hf⟩ := k0
    rw [hc] at hf
    obtain ⟨v, xs, ht, hs⟩ := rd_Ty hf
    refine ⟨v, xs, ?_, hs⟩
    have : cs = [v].toArray := by rw [← ht]
    rw [this]
  rename Value => y0
  have HV0 := Lib.hid hv0
  clear hv0 k0 o0
  go_enter Try.func3, Try.ntmps3
  have S_0 := Lib.hid (Sub.self w)
  have B_0 := Lib.hid (Below.refl w.heap.size w)
  go_wp2_with fail
  refine (laws_szTy _ (hp w) ((S_0.out).alloc _) y0 x0 HV0.out 1048576 (by omega) (by omega)).mono ?_
  rintro e w1 ⟨⟨r, rfl, r1, r2, r3⟩, hb1⟩
  have z_1 : w.heap.size + 1 ≤ w1.heap.size := by have := hb1.size; simpa using this
  have c_a0_1 : w1.cell? ⟨w.heap.size, 0, none⟩ = some (y0) := cell_kept hb1 ((cell_new (w) #[y0] 24 0).trans rfl)
  have l_a0_1 : w.heap.size < w1.heap.size := by omega
  have S_1 := Lib.hid (((S_0.out).alloc _).below hb1)
  have B_1 := Lib.hid (below_over hb1 ((B_0.out).alloc (by first | exact Nat.le_refl _ | (simp; omega) | omega) _) (by first | exact Nat.le_refl _ | (simp; omega) | omega | simp))
  clear hb1
  clear S_0 B_0
  by_cases hr : r < 0
  · go_wp2_with fail
    go_ret
    exact ⟨rfl, B_1.out⟩
  ·
    have sm0 : x0.length ≤ 1048576 := by have := r3 (by omega); omega
    clear r3
    rename Int => left0
    go_wp2_with fail
    refine (laws_toTyx _ (hp w) (S_1.out) y0 x0 HV0.out sm0).mono ?_
    rintro e w2 ⟨vs0, bss0, rfl, hx, hn, hr, hb2⟩
    obtain ⟨as0, cs0, rfl, -⟩ := hx.len
    have N_s0 := Lib.hid (At.mk' (w := w1) (T := fun h bs => TyX h (.slice as0 x0.length cs0) x0 bs) hx hn hr (loc_own _ _ tyX _ _ (fun _ _ _ _ _ _ q => q)))
    clear hx hn hr
    have z_2 : w1.heap.size + 0 ≤ w2.heap.size := by have := hb2.size; simpa using this
    have c_a0_2 : w2.cell? ⟨w.heap.size, 0, none⟩ = some (y0) := cell_kept hb2 c_a0_1
    clear c_a0_1
    have l_a0_2 : w.heap.size < w2.heap.size := by omega
    clear l_a0_1
    have S_2 := Lib.hid ((S_1.out).below hb2)
    have B_2 := Lib.hid (below_over hb2 B_1.out (by first | exact Nat.le_refl _ | (simp; omega) | omega | simp))
    clear hb2
    clear S_1 B_1
    have Ds0_2 := N_s0
    clear N_s0
    go_wp2_with fail
    refine (spec_TyCanon _ (hp _) (Sub.self _) (.slice as0 x0.length cs0) x0 (Ds0_2.out).t.readT (by omega)).mono ?_
    rintro e w3 ⟨vw0, bsw0, rfl, hx, hn, hr, hb3⟩
    obtain ⟨aw0, cw0, rfl, -⟩ := hx.len
    have N_w0 := Lib.hid (At.mk' (w := w2) (T := fun h bs => TyX h (.slice aw0 (tyCanonM x0).length cw0) (tyCanonM x0) bs) hx hn hr (loc_own _ _ tyX _ _ (fun _ _ _ _ _ _ q => q)))
    clear hx hn hr
    have z_3 : w2.heap.size + 0 ≤ w3.heap.size := by have := hb3.size; simpa using this
    have c_a0_3 : w3.cell? ⟨w.heap.size, 0, none⟩ = some (y0) := cell_kept hb3 c_a0_2
    clear c_a0_2
    have l_a0_3 : w.heap.size < w3.heap.size := by omega
    clear l_a0_2
    have Ds0_3 := Lib.hid ((Ds0_2.out).below hb3)
    have S_3 := Lib.hid ((S_2.out).below hb3)
    have B_3 := Lib.hid (below_over hb3 B_2.out (by first | exact Nat.le_refl _ | (simp; omega) | omega | simp))
    clear hb3
    clear Ds0_2 S_2 B_2
    have Dw0_3 := N_w0
    clear N_w0
    go_wp2_with fail
    refine (laws_toTyx _ (hp w) ((S_3.out).alloc _) y0 x0 HV0.out sm0).mono ?_
    rintro e w4 ⟨vx0, bsx0, rfl, hx, hn, hr, hb4⟩
    obtain ⟨ax0, cx0, rfl, -⟩ := hx.len
    have N_x0 := Lib.hid (At.mk' (w := (w3.alloc (.cells #[.slice aw0 (tyCanonM x0).length cw0] 28))) (T := fun h bs => TyX h (.slice ax0 x0.length cx0) x0 bs) hx hn hr (loc_own _ _ tyX _ _ (fun _ _ _ _ _ _ q => q)))
    clear hx hn hr
    have z_4 : w3.heap.size + 1 ≤ w4.heap.size := by have := hb4.size; simpa using this
    have c_a0_4 : w4.cell? ⟨w.heap.size, 0, none⟩ = some (y0) := cell_kept hb4 (cell_al c_a0_3 _)
    clear c_a0_3
    have l_a0_4 : w.heap.size < w4.heap.size := by omega
    clear l_a0_3
    have c_w0_4 : w4.cell? ⟨w3.heap.size, 0, none⟩ = some (.slice aw0 (tyCanonM x0).length cw0) := cell_kept hb4 ((cell_new (w3) #[.slice aw0 (tyCanonM x0).length cw0] 28 0).trans rfl)
    have l_w0_4 : w3.heap.size < w4.heap.size := by omega
    have Dw0_4 := Lib.hid (((Dw0_3.out).alloc _).below hb4)
    have S_4 := Lib.hid (((S_3.out).alloc _).below hb4)
    have B_4 := Lib.hid (below_over hb4 ((B_3.out).alloc (by first | exact Nat.le_refl _ | (simp; omega) | omega) _) (by first | exact Nat.le_refl _ | (simp; omega) | omega | simp))
    clear hb4
    clear Dw0_3 S_3 B_3
    have Dx0_4 := N_x0
    clear N_x0
    simp only [size_al] at Dx0_4
    go_wp2_with fail
    refine (impl_TyCanon _ (hp _) (Sub.self _) (.slice ax0 x0.length cx0) x0 ((Dx0_4.out).alloc _).t.readT (by omega)).mono ?_
    rintro e w5 ⟨vg0, bsg0, rfl, hx, hn, hr, hb5⟩
    obtain ⟨ag0, cg0, rfl, -⟩ := hx.len
    have N_g0 := Lib.hid (At.mk' (w := (w4.alloc (.cells #[.slice ax0 (x0).length cx0] 28))) (T := fun h bs => TyX h (.slice ag0 (tyCanonM x0).length cg0) (tyCanonM x0) bs) hx hn hr (loc_own _ _ tyX _ _ (fun _ _ _ _ _ _ q => q)))
    clear hx hn hr
    have z_5 : w4.heap.size + 1 ≤ w5.heap.size := by have := hb5.size; simpa using this
    have c_a0_5 : w5.cell? ⟨w.heap.size, 0, none⟩ = some (y0) := cell_kept hb5 (cell_al c_a0_4 _)
    clear c_a0_4
    have l_a0_5 : w.heap.size < w5.heap.size := by omega
    clear l_a0_4
    have c_w0_5 : w5.cell? ⟨w3.heap.size, 0, none⟩ = some (.slice aw0 (tyCanonM x0).length cw0) := cell_kept hb5 (cell_al c_w0_4 _)
    clear c_w0_4
    have l_w0_5 : w3.heap.size < w5.heap.size := by omega
    clear l_w0_4
    have c_x0_5 : w5.cell? ⟨w4.heap.size, 0, none⟩ = some (.slice ax0 (x0).length cx0) := cell_kept hb5 ((cell_new (w4) #[.slice ax0 (x0).length cx0] 28 0).trans rfl)
    have l_x0_5 : w4.heap.size < w5.heap.size := by omega
    have Dw0_5 := Lib.hid (((Dw0_4.out).alloc _).below hb5)
    have Dx0_5 := Lib.hid (((Dx0_4.out).alloc _).below hb5)
    have S_5 := Lib.hid (((S_4.out).alloc _).below hb5)
    have B_5 := Lib.hid (below_over hb5 ((B_4.out).alloc (by first | exact Nat.le_refl _ | (simp; omega) | omega) _) (by first | exact Nat.le_refl _ | (simp; omega) | omega | simp))
    clear hb5
    clear Dw0_4 Dx0_4 S_4 B_4
    have Dg0_5 := N_g0
    clear N_g0
    simp only [size_al] at Dg0_5
    go_wp2_with fail
    refine (laws_eqTy _ (hp _) (Sub.self _) _ _ (tyCanonM x0) ((Dg0_5.out).alloc _).t.readT ((Dw0_5.out).alloc _).t.readT).mono ?_
    rintro e w6 ⟨rfl, hb6⟩
    have z_6 : w5.heap.size + 1 ≤ w6.heap.size := by have := hb6.size; simpa using this
    have c_a0_6 : w6.cell? ⟨w.heap.size, 0, none⟩ = some (y0) := cell_kept hb6 (cell_al c_a0_5 _)
    clear c_a0_5
    have l_a0_6 : w.heap.size < w6.heap.size := by omega
    clear l_a0_5
    have c_w0_6 : w6.cell? ⟨w3.heap.size, 0, none⟩ = some (.slice aw0 (tyCanonM x0).length cw0) := cell_kept hb6 (cell_al c_w0_5 _)
    clear c_w0_5
    have l_w0_6 : w3.heap.size < w6.heap.size := by omega
    clear l_w0_5
    have c_x0_6 : w6.cell? ⟨w4.heap.size, 0, none⟩ = some (.slice ax0 (x0).length cx0) := cell_kept hb6 (cell_al c_x0_5 _)
    clear c_x0_5
    have l_x0_6 : w4.heap.size < w6.heap.size := by omega
    clear l_x0_5
    have c_g0_6 : w6.cell? ⟨w5.heap.size, 0, none⟩ = some (.slice ag0 (tyCanonM x0).length cg0) := cell_kept hb6 ((cell_new (w5) #[.slice ag0 (tyCanonM x0).length cg0] 28 0).trans rfl)
    have l_g0_6 : w5.heap.size < w6.heap.size := by omega
    have Dw0_6 := Lib.hid (((Dw0_5.out).alloc _).below hb6)
    have Dx0_6 := Lib.hid (((Dx0_5.out).alloc _).below hb6)
    have Dg0_6 := Lib.hid (((Dg0_5.out).alloc _).below hb6)
    have S_6 := Lib.hid (((S_5.out).alloc _).below hb6)
    have B_6 := Lib.hid (below_over hb6 ((B_5.out).alloc (by first | exact Nat.le_refl _ | (simp; omega) | omega) _) (by first | exact Nat.le_refl _ | (simp; omega) | omega | simp))
    clear hb6
    clear Dw0_5 Dx0_5 Dg0_5 S_5 B_5
    go_wp2_with fail
    go_region_law (first | (refine step_guard rfl ?_; go_simp; go_at_call 19; refine (laws_toTyx _ (hp w) (S_6.out.drew) y0 x0 HV0.out sm0).mono ?_; rintro e w7 ⟨v', bs', rfl, hx, hn, hr, hb7⟩; obtain ⟨a', c', rfl, -⟩ := hx.len; replace hb7 := below_undrew hb7; have c_x0_7 := cell_kept hb7 c_x0_6; have HT := Lib.hid hx.readT; have HB1 := Lib.hid hb7; clear hx hn hr hb7; dsimp only) | (refine step_guard rfl ?_; go_simp; go_at_call 21; refine (laws_eqTy _ (hp _) (Sub.self _) _ _ x0 ((Dx0_6.out).below HB1.out).t.readT HT.out).mono ?_; rintro e w8 ⟨rfl, hb8⟩; have HB2 := Lib.hid hb8; clear hb8; dsimp only))
    all_goals
      have hb8 : Below w6.heap.size w6 w8 := by first | exact below_over HB2.out HB1.out HB1.out.size | exact below_over (below_undrew HB2.out) HB1.out HB1.out.size
      clear HB1 HB2 HT c_x0_7
      have c_a0_7 := c_a0_6
      have l_a0_7 := l_a0_6
      have c_w0_7 := c_w0_6
      have l_w0_7 := l_w0_6
      have c_x0_7 := c_x0_6
      have l_x0_7 := l_x0_6
      have c_g0_7 := c_g0_6
      have l_g0_7 := l_g0_6
      have Dw0_7 := Dw0_6
      have Dx0_7 := Dx0_6
      have Dg0_7 := Dg0_6
      have S_7 := S_6
      have B_7 := B_6
      clear c_a0_6 c_w0_6 c_x0_6 c_g0_6 l_a0_6 l_w0_6 l_x0_6 l_g0_6 Dw0_6 Dx0_6 Dg0_6 S_6 B_6
      have z_8 : w6.heap.size + 0 ≤ w8.heap.size := by have := hb8.size; simpa using this
      have c_a0_8 : w8.cell? ⟨w.heap.size, 0, none⟩ = some (y0) := cell_kept hb8 c_a0_7
      clear c_a0_7
      have l_a0_8 : w.heap.size < w8.heap.size := by omega
      clear l_a0_7
      have c_w0_8 : w8.cell? ⟨w3.heap.size, 0, none⟩ = some (.slice aw0 (tyCanonM x0).length cw0) := cell_kept hb8 c_w0_7
      clear c_w0_7
      have l_w0_8 : w3.heap.size < w8.heap.size := by omega
      clear l_w0_7
      have c_x0_8 : w8.cell? ⟨w4.heap.size, 0, none⟩ = some (.slice ax0 (x0).length cx0) := cell_kept hb8 c_x0_7
      clear c_x0_7
      have l_x0_8 : w4.heap.size < w8.heap.size := by omega
      clear l_x0_7
      have c_g0_8 : w8.cell? ⟨w5.heap.size, 0, none⟩ = some (.slice ag0 (tyCanonM x0).length cg0) := cell_kept hb8 c_g0_7
      clear c_g0_7
      have l_g0_8 : w5.heap.size < w8.heap.size := by omega
      clear l_g0_7
      have Dw0_8 := Lib.hid ((Dw0_7.out).below hb8)
      have Dx0_8 := Lib.hid ((Dx0_7.out).below hb8)
      have Dg0_8 := Lib.hid ((Dg0_7.out).below hb8)
      have S_8 := Lib.hid ((S_7.out).below hb8)
      have B_8 := Lib.hid (below_over hb8 B_7.out (by first | exact Nat.le_refl _ | (simp; omega) | omega | simp))
      clear hb8
      clear Dw0_7 Dx0_7 Dg0_7 S_7 B_7
      go_wp2_with fail
      refine (laws_markTy _ _ (x0) bsx0 Dx0_8.out.t (fun b hm => by have := Dx0_8.out.rng b hm; have := Dx0_8.out.top; omega) (by omega) (1) (by omega) (by omega)).mono ?_
      rintro e w9 ⟨rfl, hx, hf9⟩
      have N_m := Lib.hid hx
      clear hx
      have z_9 : w8.heap.size + 0 ≤ w9.heap.size := by have := hf9.size; simpa using this
      have c_a0_9 : w9.cell? ⟨w.heap.size, 0, none⟩ = some (y0) := cell_fr hf9 c_a0_8 (fun hm => by have := Dx0_8.out.rng _ hm; simp only at this; omega)
      clear c_a0_8
      have l_a0_9 : w.heap.size < w9.heap.size := by omega
      clear l_a0_8
      have c_w0_9 : w9.cell? ⟨w3.heap.size, 0, none⟩ = some (.slice aw0 (tyCanonM x0).length cw0) := cell_fr hf9 c_w0_8 (fun hm => by have := Dx0_8.out.rng _ hm; simp only at this; omega)
      clear c_w0_8
      have l_w0_9 : w3.heap.size < w9.heap.size := by omega
      clear l_w0_8
      have c_x0_9 : w9.cell? ⟨w4.heap.size, 0, none⟩ = some (.slice ax0 (x0).length cx0) := cell_fr hf9 c_x0_8 (fun hm => by have := Dx0_8.out.rng _ hm; simp only at this; omega)
      clear c_x0_8
      have l_x0_9 : w4.heap.size < w9.heap.size := by omega
      clear l_x0_8
      have c_g0_9 : w9.cell? ⟨w5.heap.size, 0, none⟩ = some (.slice ag0 (tyCanonM x0).length cg0) := cell_fr hf9 c_g0_8 (fun hm => by have := Dx0_8.out.rng _ hm; simp only at this; omega)
      clear c_g0_8
      have l_g0_9 : w5.heap.size < w9.heap.size := by omega
      clear l_g0_8
      have Dw0_9 := Lib.hid ((Dw0_8.out).fr hf9 (fun b hm => by have := Dx0_8.out.rng b hm; omega))
      have Dg0_9 := Lib.hid ((Dg0_8.out).fr hf9 (fun b hm => by have := Dx0_8.out.rng b hm; omega))
      have S_9 := Lib.hid ((S_8.out).fr hf9 (fun b hm => (Sub.self w).none (by have := Dx0_8.out.rng b hm; omega)))
      have B_9 := Lib.hid (B_8.out.trans (hf9.below (B := w.heap.size) (by omega) (fun b hm => by have := Dx0_8.out.rng b hm; omega)))
      clear Dw0_8 Dg0_8 S_8 B_8
      clear Dx0_8 N_m hf9
      have kneg : decide (1 + 3 * ((x0).length : Int) < 0) = false := decide_eq_false (by omega)
      go_wp2_with fail
      refine (laws_eqTy _ (hp _) (Sub.self _) _ _ (tyCanonM x0) (Dg0_9.out).t.readT (Dw0_9.out).t.readT).mono ?_
      rintro e w10 ⟨rfl, hb10⟩
      have z_10 : w9.heap.size + 0 ≤ w10.heap.size := by have := hb10.size; simpa using this
      have c_a0_10 : w10.cell? ⟨w.heap.size, 0, none⟩ = some (y0) := cell_kept hb10 c_a0_9
      clear c_a0_9
      have l_a0_10 : w.heap.size < w10.heap.size := by omega
      clear l_a0_9
      have c_w0_10 : w10.cell? ⟨w3.heap.size, 0, none⟩ = some (.slice aw0 (tyCanonM x0).length cw0) := cell_kept hb10 c_w0_9
      clear c_w0_9
      have l_w0_10 : w3.heap.size < w10.heap.size := by omega
      clear l_w0_9
      have c_x0_10 : w10.cell? ⟨w4.heap.size, 0, none⟩ = some (.slice ax0 (x0).length cx0) := cell_kept hb10 c_x0_9
      clear c_x0_9
      have l_x0_10 : w4.heap.size < w10.heap.size := by omega
      clear l_x0_9
      have c_g0_10 : w10.cell? ⟨w5.heap.size, 0, none⟩ = some (.slice ag0 (tyCanonM x0).length cg0) := cell_kept hb10 c_g0_9
      clear c_g0_9
      have l_g0_10 : w5.heap.size < w10.heap.size := by omega
      clear l_g0_9
      have Dw0_10 := Lib.hid ((Dw0_9.out).below hb10)
      have Dg0_10 := Lib.hid ((Dg0_9.out).below hb10)
      have S_10 := Lib.hid ((S_9.out).below hb10)
      have B_10 := Lib.hid (below_over hb10 B_9.out (by first | exact Nat.le_refl _ | (simp; omega) | omega | simp))
      clear hb10
      clear Dw0_9 Dg0_9 S_9 B_9
      have ml : (tyCanonM x0).length ≤ 1000000 := tyCanonM_len x0
      go_wp2_with fail
      refine (laws_markTy _ _ (tyCanonM x0) bsg0 Dg0_10.out.t (fun b hm => by have := Dg0_10.out.rng b hm; have := Dg0_10.out.top; omega) (by omega) (1) (by omega) (by omega)).mono ?_
      rintro e w11 ⟨rfl, hx, hf11⟩
      have N_m := Lib.hid hx
      clear hx
      have z_11 : w10.heap.size + 0 ≤ w11.heap.size := by have := hf11.size; simpa using this
      have c_a0_11 : w11.cell? ⟨w.heap.size, 0, none⟩ = some (y0) := cell_fr hf11 c_a0_10 (fun hm => by have := Dg0_10.out.rng _ hm; simp only at this; omega)
      clear c_a0_10
      have l_a0_11 : w.heap.size < w11.heap.size := by omega
      clear l_a0_10
      have c_w0_11 : w11.cell? ⟨w3.heap.size, 0, none⟩ = some (.slice aw0 (tyCanonM x0).length cw0) := cell_fr hf11 c_w0_10 (fun hm => by have := Dg0_10.out.rng _ hm; simp only at this; omega)
      clear c_w0_10
      have l_w0_11 : w3.heap.size < w11.heap.size := by omega
      clear l_w0_10
      have c_x0_11 : w11.cell? ⟨w4.heap.size, 0, none⟩ = some (.slice ax0 (x0).length cx0) := cell_fr hf11 c_x0_10 (fun hm => by have := Dg0_10.out.rng _ hm; simp only at this; omega)
      clear c_x0_10
      have l_x0_11 : w4.heap.size < w11.heap.size := by omega
      clear l_x0_10
      have c_g0_11 : w11.cell? ⟨w5.heap.size, 0, none⟩ = some (.slice ag0 (tyCanonM x0).length cg0) := cell_fr hf11 c_g0_10 (fun hm => by have := Dg0_10.out.rng _ hm; simp only at this; omega)
      clear c_g0_10
      have l_g0_11 : w5.heap.size < w11.heap.size := by omega
      clear l_g0_10
      have Dw0_11 := Lib.hid ((Dw0_10.out).fr hf11 (fun b hm => by have := Dg0_10.out.rng b hm; omega))
      have S_11 := Lib.hid ((S_10.out).fr hf11 (fun b hm => (Sub.self w).none (by have := Dg0_10.out.rng b hm; omega)))
      have B_11 := Lib.hid (B_10.out.trans (hf11.below (B := w.heap.size) (by omega) (fun b hm => by have := Dg0_10.out.rng b hm; omega)))
      clear Dw0_10 S_10 B_10
      have Dm_11 := Lib.hid (At.mk (T := fun h bs => TyX h (.slice ag0 (tyCanonM x0).length cg0) (tyMarks 1 (tyCanonM x0).length) bs) N_m.out Dg0_10.out.nd Dg0_10.out.rng (by have := Dg0_10.out.top; omega) (loc_own _ _ tyX _ _ (fun _ _ _ _ _ _ q => q)))
      clear Dg0_10 N_m hf11
      go_wp2_with fail
      refine (laws_heldTy _ (hp _) (Sub.self _) _ 1 (tyCanonM x0).length (by omega) (by omega) (by omega) Dm_11.out.t.readT).mono ?_
      rintro e w12 ⟨rfl, hb12⟩
      have z_12 : w11.heap.size + 0 ≤ w12.heap.size := by have := hb12.size; simpa using this
      have c_a0_12 : w12.cell? ⟨w.heap.size, 0, none⟩ = some (y0) := cell_kept hb12 c_a0_11
      clear c_a0_11
      have l_a0_12 : w.heap.size < w12.heap.size := by omega
      clear l_a0_11
      have c_w0_12 : w12.cell? ⟨w3.heap.size, 0, none⟩ = some (.slice aw0 (tyCanonM x0).length cw0) := cell_kept hb12 c_w0_11
      clear c_w0_11
      have l_w0_12 : w3.heap.size < w12.heap.size := by omega
      clear l_w0_11
      have c_x0_12 : w12.cell? ⟨w4.heap.size, 0, none⟩ = some (.slice ax0 (x0).length cx0) := cell_kept hb12 c_x0_11
      clear c_x0_11
      have l_x0_12 : w4.heap.size < w12.heap.size := by omega
      clear l_x0_11
      have c_g0_12 : w12.cell? ⟨w5.heap.size, 0, none⟩ = some (.slice ag0 (tyCanonM x0).length cg0) := cell_kept hb12 c_g0_11
      clear c_g0_11
      have l_g0_12 : w5.heap.size < w12.heap.size := by omega
      clear l_g0_11
      have Dw0_12 := Lib.hid ((Dw0_11.out).below hb12)
      have Dm_12 := Lib.hid ((Dm_11.out).below hb12)
      have S_12 := Lib.hid ((S_11.out).below hb12)
      have B_12 := Lib.hid (below_over hb12 B_11.out (by first | exact Nat.le_refl _ | (simp; omega) | omega | simp))
      clear hb12
      clear Dw0_11 Dm_11 S_11 B_11
      have mneg : ¬ (1 + 3 * ((tyCanonM x0).length : Int)) < 0 := by omega
      go_wp2_with fail
      refine (laws_toTyx _ (hp w) (S_12.out) y0 x0 HV0.out sm0).mono ?_
      rintro e w13 ⟨vk0, bsk0, rfl, hx, hn, hr, hb13⟩
      obtain ⟨ak0, ck0, rfl, -⟩ := hx.len
      have N_k0 := Lib.hid (At.mk' (w := w12) (T := fun h bs => TyX h (.slice ak0 x0.length ck0) x0 bs) hx hn hr (loc_own _ _ tyX _ _ (fun _ _ _ _ _ _ q => q)))
      clear hx hn hr
      have z_13 : w12.heap.size + 0 ≤ w13.heap.size := by have := hb13.size; simpa using this
      have c_a0_13 : w13.cell? ⟨w.heap.size, 0, none⟩ = some (y0) := cell_kept hb13 c_a0_12
      clear c_a0_12
      have l_a0_13 : w.heap.size < w13.heap.size := by omega
      clear l_a0_12
      have c_w0_13 : w13.cell? ⟨w3.heap.size, 0, none⟩ = some (.slice aw0 (tyCanonM x0).length cw0) := cell_kept hb13 c_w0_12
      clear c_w0_12
      have l_w0_13 : w3.heap.size < w13.heap.size := by omega
      clear l_w0_12
      have c_x0_13 : w13.cell? ⟨w4.heap.size, 0, none⟩ = some (.slice ax0 (x0).length cx0) := cell_kept hb13 c_x0_12
      clear c_x0_12
      have l_x0_13 : w4.heap.size < w13.heap.size := by omega
      clear l_x0_12
      have c_g0_13 : w13.cell? ⟨w5.heap.size, 0, none⟩ = some (.slice ag0 (tyCanonM x0).length cg0) := cell_kept hb13 c_g0_12
      clear c_g0_12
      have l_g0_13 : w5.heap.size < w13.heap.size := by omega
      clear l_g0_12
      have Dw0_13 := Lib.hid ((Dw0_12.out).below hb13)
      have Dm_13 := Lib.hid ((Dm_12.out).below hb13)
      have S_13 := Lib.hid ((S_12.out).below hb13)
      have B_13 := Lib.hid (below_over hb13 B_12.out (by first | exact Nat.le_refl _ | (simp; omega) | omega | simp))
      clear hb13
      clear Dw0_12 Dm_12 S_12 B_12
      have Dk0_13 := N_k0
      clear N_k0
      go_wp2_with fail
      refine (impl_TyCanon _ (hp _) (Sub.self _) (.slice ak0 x0.length ck0) x0 (Dk0_13.out).t.readT (by omega)).mono ?_
      rintro e w14 ⟨vh0, bsh0, rfl, hx, hn, hr, hb14⟩
      obtain ⟨ah0, ch0, rfl, -⟩ := hx.len
      have N_h0 := Lib.hid (At.mk' (w := w13) (T := fun h bs => TyX h (.slice ah0 (tyCanonM x0).length ch0) (tyCanonM x0) bs) hx hn hr (loc_own _ _ tyX _ _ (fun _ _ _ _ _ _ q => q)))
      clear hx hn hr
      have z_14 : w13.heap.size + 0 ≤ w14.heap.size := by have := hb14.size; simpa using this
      have c_a0_14 : w14.cell? ⟨w.heap.size, 0, none⟩ = some (y0) := cell_kept hb14 c_a0_13
      clear c_a0_13
      have l_a0_14 : w.heap.size < w14.heap.size := by omega
      clear l_a0_13
      have c_w0_14 : w14.cell? ⟨w3.heap.size, 0, none⟩ = some (.slice aw0 (tyCanonM x0).length cw0) := cell_kept hb14 c_w0_13
      clear c_w0_13
      have l_w0_14 : w3.heap.size < w14.heap.size := by omega
      clear l_w0_13
      have c_x0_14 : w14.cell? ⟨w4.heap.size, 0, none⟩ = some (.slice ax0 (x0).length cx0) := cell_kept hb14 c_x0_13
      clear c_x0_13
      have l_x0_14 : w4.heap.size < w14.heap.size := by omega
      clear l_x0_13
      have c_g0_14 : w14.cell? ⟨w5.heap.size, 0, none⟩ = some (.slice ag0 (tyCanonM x0).length cg0) := cell_kept hb14 c_g0_13
      clear c_g0_13
      have l_g0_14 : w5.heap.size < w14.heap.size := by omega
      clear l_g0_13
      have Dw0_14 := Lib.hid ((Dw0_13.out).below hb14)
      have Dm_14 := Lib.hid ((Dm_13.out).below hb14)
      have Dk0_14 := Lib.hid ((Dk0_13.out).below hb14)
      have S_14 := Lib.hid ((S_13.out).below hb14)
      have B_14 := Lib.hid (below_over hb14 B_13.out (by first | exact Nat.le_refl _ | (simp; omega) | omega | simp))
      clear hb14
      clear Dw0_13 Dm_13 Dk0_13 S_13 B_13
      have Dh0_14 := N_h0
      clear N_h0
      go_wp2_with fail
      refine (laws_eqTy _ (hp _) (Sub.self _) _ _ (tyCanonM x0) ((Dh0_14.out).alloc _).t.readT ((Dw0_14.out).alloc _).t.readT).mono ?_
      rintro e w15 ⟨rfl, hb15⟩
      have z_15 : w14.heap.size + 1 ≤ w15.heap.size := by have := hb15.size; simpa using this
      have c_a0_15 : w15.cell? ⟨w.heap.size, 0, none⟩ = some (y0) := cell_kept hb15 (cell_al c_a0_14 _)
      clear c_a0_14
      have l_a0_15 : w.heap.size < w15.heap.size := by omega
      clear l_a0_14
      have c_w0_15 : w15.cell? ⟨w3.heap.size, 0, none⟩ = some (.slice aw0 (tyCanonM x0).length cw0) := cell_kept hb15 (cell_al c_w0_14 _)
      clear c_w0_14
      have l_w0_15 : w3.heap.size < w15.heap.size := by omega
      clear l_w0_14
      have c_x0_15 : w15.cell? ⟨w4.heap.size, 0, none⟩ = some (.slice ax0 (x0).length cx0) := cell_kept hb15 (cell_al c_x0_14 _)
      clear c_x0_14
      have l_x0_15 : w4.heap.size < w15.heap.size := by omega
      clear l_x0_14
      have c_g0_15 : w15.cell? ⟨w5.heap.size, 0, none⟩ = some (.slice ag0 (tyCanonM x0).length cg0) := cell_kept hb15 (cell_al c_g0_14 _)
      clear c_g0_14
      have l_g0_15 : w5.heap.size < w15.heap.size := by omega
      clear l_g0_14
      have c_h0_15 : w15.cell? ⟨w14.heap.size, 0, none⟩ = some (.slice ah0 (tyCanonM x0).length ch0) := cell_kept hb15 ((cell_new (w14) #[.slice ah0 (tyCanonM x0).length ch0] 28 0).trans rfl)
      have l_h0_15 : w14.heap.size < w15.heap.size := by omega
      have Dw0_15 := Lib.hid (((Dw0_14.out).alloc _).below hb15)
      have Dm_15 := Lib.hid (((Dm_14.out).alloc _).below hb15)
      have Dh0_15 := Lib.hid (((Dh0_14.out).alloc _).below hb15)
      have S_15 := Lib.hid (((S_14.out).alloc _).below hb15)
      have B_15 := Lib.hid (below_over hb15 ((B_14.out).alloc (by first | exact Nat.le_refl _ | (simp; omega) | omega) _) (by first | exact Nat.le_refl _ | (simp; omega) | omega | simp))
      clear hb15
      clear Dw0_14 Dm_14 Dh0_14 S_14 B_14
      go_wp2_with fail
      refine (laws_heldTy _ (hp _) (Sub.self _) _ 1 (tyCanonM x0).length (by omega) (by omega) (by omega) Dm_15.out.t.readT).mono ?_
      rintro e w16 ⟨rfl, hb16⟩
      have z_16 : w15.heap.size + 0 ≤ w16.heap.size := by have := hb16.size; simpa using this
      have c_a0_16 : w16.cell? ⟨w.heap.size, 0, none⟩ = some (y0) := cell_kept hb16 c_a0_15
      clear c_a0_15
      have l_a0_16 : w.heap.size < w16.heap.size := by omega
      clear l_a0_15
      have c_w0_16 : w16.cell? ⟨w3.heap.size, 0, none⟩ = some (.slice aw0 (tyCanonM x0).length cw0) := cell_kept hb16 c_w0_15
      clear c_w0_15
      have l_w0_16 : w3.heap.size < w16.heap.size := by omega
      clear l_w0_15
      have c_x0_16 : w16.cell? ⟨w4.heap.size, 0, none⟩ = some (.slice ax0 (x0).length cx0) := cell_kept hb16 c_x0_15
      clear c_x0_15
      have l_x0_16 : w4.heap.size < w16.heap.size := by omega
      clear l_x0_15
      have c_g0_16 : w16.cell? ⟨w5.heap.size, 0, none⟩ = some (.slice ag0 (tyCanonM x0).length cg0) := cell_kept hb16 c_g0_15
      clear c_g0_15
      have l_g0_16 : w5.heap.size < w16.heap.size := by omega
      clear l_g0_15
      have c_h0_16 : w16.cell? ⟨w14.heap.size, 0, none⟩ = some (.slice ah0 (tyCanonM x0).length ch0) := cell_kept hb16 c_h0_15
      clear c_h0_15
      have l_h0_16 : w14.heap.size < w16.heap.size := by omega
      clear l_h0_15
      have Dw0_16 := Lib.hid ((Dw0_15.out).below hb16)
      have Dm_16 := Lib.hid ((Dm_15.out).below hb16)
      have Dh0_16 := Lib.hid ((Dh0_15.out).below hb16)
      have S_16 := Lib.hid ((S_15.out).below hb16)
      have B_16 := Lib.hid (below_over hb16 B_15.out (by first | exact Nat.le_refl _ | (simp; omega) | omega | simp))
      clear hb16
      clear Dw0_15 Dm_15 Dh0_15 S_15 B_15
      go_wp2_with fail
      go_ret
      exact ⟨rfl, B_16.out⟩

/-! ### the row's step -/
set_option maxRecDepth 100000 in
theorem lifted (os : Os) (started : os.Started) (H : Type) (enc : TypeId × Value → H) :
    ReturnsInHanded {} Try.checked os 3 .any (Rows.fnExactTyCanonSpec.pre6 enc Try.prog Try.f3 Rows.fnExactTyCanonRow.domain false) (Rows.fnExactTyCanonSpec.post enc Try.prog Try.f3 false true false false) := by
  refine returnsInHanded_of_change (C := Try.checked) own started (by kernel_rfl) Try.func3
    (ChangeSpec.witness6 (enc := enc) (C := Try.checked) false ⟨#[], #[.agg #[.slice none 0 0]], []⟩ 8 (by kernel_rfl) (by kernel_rfl) (by kernel_rfl) (by kernel_rfl)) ?_
  intro W base args ds gs before hval0 hW hcnd _
  have hval : ∀ (j : Nat) t v, Try.f3.params[j]? = some t → args[j]? = some v → Value.okWide Try.prog W .any base t v := hval0
  have hW' := hW
  obtain ⟨p, q, hA0, hV, rfl, hfz, hnd⟩ := hW
  have hA : DataW.TrodAll enc Try.prog W 0 (fun _ => true) true Try.f3.params.toList args.toList ds p := hA0
  rw [Try.params3] at hA hval
  obtain ⟨v0, vs0, d0, ds0, p0, q0, hargs, rfl, rfl, h0, r0⟩ := trodAll_cons hA
  obtain ⟨rfl, rfl, rfl⟩ := trodAll_nil r0
  obtain rfl : args = #[v0] := by cases args; simp_all
  obtain ⟨rfl, rfl⟩ := trodVars_none hV
  have lt0 : ∀ x ∈ p0, x.block < W.heap.size := by obtain ⟨m, hm⟩ := h0; exact DataW.trod_lt m _ _ _ hm
  clear hA0 hval0
  refine (walk (enc := enc) W v0 d0 p0 h0 (hval 0 24 v0 rfl rfl)).mono fun e W' ⟨he, bel⟩ => ?_
  subst he
  exact ⟨_, rfl, _, _, _, [], _, [], hW', trodAll_mk1 (shut_bool Try.underlying4 _), (trodAll_cons_mk (Below.trod laidOut (by kernel_rfl) (of_decide_eq_true (by kernel_rfl)) h0 bel lt0) trodAll_mk0), rfl, bel.frame _, fun h => by cases h⟩

theorem fact0 : (Rows.fnExactTyCanonRow.wf (OpenSpec.ofChange Rows.fnExactTyCanonSpec)) = true := by kernel_rfl
theorem fact3 : (Try.f3.params.all (Try.prog.readableRec ·)) = true := by kernel_rfl
theorem fact4 : (namedTie Try.prog Rows.fnExactTyCanonRow.named Rows.fnExactTyCanonSpec.vars) = true := by kernel_rfl
theorem fact5 : ((Rows.fnExactTyCanonRow.stops == [])) = true := by kernel_rfl
theorem fact7 : ((Rows.fnExactTyCanonRow.knobs == [])) = true := by kernel_rfl
theorem fact9 : ((Rows.fnExactTyCanonRow.inPlace == Try.prog.inPlace 3)) = true := by kernel_rfl
theorem fact10 : ((Rows.fnExactTyCanonRow.unfollowed == Try.prog.unfollowed 3)) = true := by kernel_rfl
theorem fact11 : ((Rows.fnExactTyCanonRow.recurses == Try.prog.recurses 3)) = true := by kernel_rfl
theorem fact12 : ((Rows.fnExactTyCanonRow.named == Try.prog.varsNamed 3)) = true := by kernel_rfl
theorem fact13 : ((Rows.fnExactTyCanonRow.maps == (Try.f3.params.toList ++ Rows.fnExactTyCanonSpec.plain.varTypes Try.prog).any (Try.prog.mapsRec ·))) = true := by kernel_rfl
theorem fact14 : ((Rows.fnExactTyCanonRow.ifaces == (Try.f3.params.toList ++ Rows.fnExactTyCanonSpec.plain.varTypes Try.prog).any (Try.prog.ifacesRec ·))) = true := by kernel_rfl
theorem fact15 : ((Rows.fnExactTyCanonRow.mapsOut == Try.prog.mapsAmong Try.f3.resultTypes.toList)) = true := by kernel_rfl
theorem fact16 : ((Rows.fnExactTyCanonRow.loops == (Try.f3.params.toList ++ Rows.fnExactTyCanonSpec.plain.varTypes Try.prog).any (Try.prog.loopsFrom ·))) = true := by kernel_rfl
theorem fact17 : ((Rows.fnExactTyCanonRow.wideKeys == (Try.f3.params.toList ++ Rows.fnExactTyCanonSpec.plain.varTypes Try.prog ++ Try.f3.resultTypes.toList).any (Try.prog.wideKeysFrom ·))) = true := by kernel_rfl
theorem fact18 : (Rows.fnExactTyCanonSpec.vars.all (Try.prog.varReadable ·)) = true := by kernel_rfl
theorem fact19 : (Try.f3.resultTypes.all (fun t => Try.prog.readableRec t && decide (t < Try.prog.types.size))) = true := by kernel_rfl
theorem fact20 : ((Rows.fnExactTyCanonRow.ifacesOut == Try.f3.resultTypes.toList.any (Try.prog.ifacesRec ·))) = true := by kernel_rfl
theorem fact21 : ((Rows.fnExactTyCanonRow.loopsOut == Try.f3.resultTypes.toList.any (Try.prog.loopsFrom ·))) = true := by kernel_rfl
theorem fact23 : (Rows.fnExactTyCanonRow.shortTexts.isNone) = true := by kernel_rfl
theorem fact28 : ((Rows.fnExactTyCanonRow.kinds == (if Rows.fnExactTyCanonRow.domain.isEmpty then [] else Try.f3.params.toList.map fun t => match Try.prog.underlying t with | some (.int k) => some k | _ => none))) = true := by kernel_rfl
theorem fact29 : ((Rows.fnExactTyCanonRow.pinned == Rows.fnExactTyCanonRow.pinnedBy)) = true := by kernel_rfl
theorem fact30 : ((Rows.fnExactTyCanonRow.veiled == (Try.f3.params.toList ++ Rows.fnExactTyCanonSpec.plain.varTypes Try.prog ++ Try.f3.resultTypes.toList).any (Try.prog.veiledRec ·))) = true := by kernel_rfl
theorem fact31 : (Rows.fnExactTyCanonRow.veiledFits Try.prog Try.f3.params.toList (Try.f3.params.toList ++ Rows.fnExactTyCanonSpec.plain.varTypes Try.prog ++ Try.f3.resultTypes.toList)) = true := by kernel_rfl
set_option maxRecDepth 100000 in
theorem closed : joinedFacts Try.prog 3 Try.f3 Rows.fnExactTyCanonSpec Rows.fnExactTyCanonRow = true := (and_t (and_t (and_t (and_t (and_t (and_t (and_t (and_t (and_t (and_t (and_t (and_t (and_t (and_t (and_t (and_t (and_t (and_t (and_t (and_t (and_t (and_t (and_t (and_t (and_t (and_t (and_t (and_t (and_t (and_t (and_t fact0 cl_1) cl_2) fact3) fact4) fact5) cl_6) fact7) cl_8) fact9) fact10) fact11) fact12) fact13) fact14) fact15) fact16) fact17) fact18) fact19) fact20) fact21) cl_22) fact23) cl_24) cl_25) cl_26) cl_27) fact28) fact29) fact30) fact31)
set_option maxRecDepth 100000 in
theorem inst : Try.f3.isInstance Try.prog Rows.fnExactTyCanonRow.origin Rows.fnExactTyCanonRow.targs := of_decide_eq_true (by kernel_rfl)
set_option maxRecDepth 100000 in
theorem wrap : Try.f3.isWrapper Try.prog Rows.fnExactTyCanonRow.wrapper Rows.fnExactTyCanonRow.mainSum := by unfold Func.isWrapper; first | (rw [if_pos (by decide +kernel)]; kernel_rfl) | (rw [if_neg (by decide +kernel)]; exact ⟨rfl, rfl⟩)
set_option maxRecDepth 100000 in
theorem over : Rows.fnExactTyCanonRow.holds Try.pinned (OpenSpec.ofChange Rows.fnExactTyCanonSpec) :=
  OpenClaim.holds_of_wide 3 Try.f3 rfl rfl rfl rfl rfl rfl rfl ⟨rfl, rfl, rfl, rfl, rfl⟩ rfl rfl rfl rfl rfl (by kernel_rfl) Try.func3 closed
    inst wrap
    (fun os started H enc _ => lifted os started H enc)

/-- the statement -/
theorem proved : Rows.FnExactTyCanonSaid := over
#print axioms proved
end Go.Proofs.Ytbimnhbpcppfiaa.fnExactTyCanon
