/- Slices of numbers: szIntS, toIntS, eqIntS. -/
import Derived.Test.YtokjkmibnjfkaaaDat
import Derived.Test.YtokjkmibnjfkaaaTy
import Derived.Deep.QuietTactic
import Derived.BigQuiet
namespace Go.Proofs.Ytokjkmibnjfkaaa
set_option linter.unusedVariables false
set_option linter.unusedSimpArgs false
open Go.RowKit Go.ChangeShapes Go.WideShapes
def intR (_ : Hp) (r : List Value) (x : Int) : Prop := r = [.int .i64 x] ∧ I64 x
abbrev IntS (h : Hp) (v : Value) (xs : List Int) : Prop := SlOf 1 intR h v xs
theorem IntS.mono {h h' : Hp} {v : Value} {xs : List Int} (q : IntS h v xs) (l : HLe h h') : IntS h' v xs := SlOf.le q l fun _ _ _ q => q
theorem IntS.mem {h : Hp} {v : Value} {xs : List Int} (q : IntS h v xs) : ∀ x ∈ xs, I64 x := by
  obtain ⟨a, c, _, _, _, r⟩ := q
  intro x hx
  rcases r with rfl | ⟨b, off, _, hc⟩
  · cases hx
  · obtain ⟨i, hi, rfl⟩ := List.getElem_of_mem hx
    obtain ⟨_, _, _, hr⟩ := hc i hi
    exact hr.2
theorem IntS.cell {h : Hp} {a : Option Addr} {n c : Nat} {xs : List Int} (q : IntS h (.slice a n c) xs) {i : Nat} (hi : i < xs.length) :
    ∃ b off, a = some ⟨b, off, none⟩ ∧ ∀ j (hj : j < xs.length), ∀ w : World, Sub h w → w.cell? ⟨b, off + j, none⟩ = some (.int .i64 xs[j]) := by
  obtain ⟨a', c', e, _, _, r⟩ := q
  injection e with e1 e2 e3
  subst e1
  rcases r with rfl | ⟨b, off, ea, hc⟩
  · simp at hi
  · refine ⟨b, off, ea, fun j hj w hw => ?_⟩
    obtain ⟨r, hr1, hr2, hr3⟩ := hc j hj
    rw [hr3.1, Nat.mul_one] at hr2
    exact hr2.cell hw (i := 0) (by simp)
theorem rd_int1 {H : Type} {enc : TypeId × Value → H} {W : World} {n : Nat} {cs : List Value} {x : DataW H × List MemPlace} (h : Rd enc Try.prog W n 3 cs x) : ∃ t : Int, intR (hp W) cs t := by
  obtain ⟨k0, e0, -, z0⟩ := DataW.trod_int Try.underlying3 h
  exact ⟨k0, e0, i64_of z0⟩
theorem rd_ints {H : Type} {enc : TypeId × Value → H} {W : World} {n : Nat} {cs : List Value} {x : DataW H × List MemPlace} (h : Rd enc Try.prog W n 80 cs x) : ∃ v xs, cs = [v] ∧ IntS (hp W) v xs :=
  rd_slice 1 intR Try.underlying80 cells_tint (by decide) (fun n cs' y hy => rd_int1 hy) h
theorem info_int : (Try.prog.info? 3).map (fun i => (i.zero, i.size, i.bytes)) = some (some (.int .i64 0), 1, 8) := by kernel_rfl
theorem laws_szIntS (w : World) (h : Hp) (hs : Sub h w) (v : Value) (xs : List Int) (hv : IntS h v xs) (left : Int) (h0 : 0 ≤ left) (h1 : left ≤ 1048576) :
    Calls Try.prog 110 #[v, .int .i64 left] w fun e w' => SzS left (SmallS (fun (_ : Int) => True) xs) e ∧ Below w.heap.size w w' := by
  obtain ⟨a, c, rfl, hc1, hc2, -⟩ := hv
  unfold maxLen at hc2
  by_cases hl : left < xs.length
  · go_enter Try.func110, Try.ntmps110
    go_wp2
    go_ret
    exact ⟨⟨_, rfl, by omega, by omega, by omega⟩, Below.refl _ _⟩
  · go_enter Try.func110, Try.ntmps110
    go_wp2
    go_ret
    exact ⟨⟨_, rfl, by omega, by omega, fun _ => ⟨by omega, fun _ _ => trivial⟩⟩, Below.refl _ _⟩
def intsPost (h : Hp) (w : World) (xs : List Int) (e : Ending) (w' : World) : Prop := ∃ v', e = .returned v' ∧ IntS (ext h w.heap.size w') v' xs ∧ Below w.heap.size w w'
set_option maxRecDepth 100000 in
set_option maxHeartbeats 2000000 in
theorem laws_toIntS (w : World) (h : Hp) (hs : Sub h w) (v : Value) (xs : List Int) (hv : IntS h v xs) (hsm : SmallS (fun (_ : Int) => True) xs) :
    Calls Try.prog 111 #[v] w fun e w' => intsPost h w xs e w' := by
  have hm := Lib.hid hv.mem
  have HV := Lib.hid hv
  have hl := hsm.1
  clear hsm
  obtain ⟨a, c, rfl, hc1, hc2, -⟩ := hv
  unfold maxLen at hc2
  have hlm : xs.length ≤ maxLen := by unfold maxLen; omega
  go_enter Try.func111, Try.ntmps111
  go_wp2_with (first | (at_make; refine make_n Try.underlying80 info_int w rfl _ _ rfl w.heap.size _ _ xs.length rfl rfl rfl rfl (by omega) hlm (Nat.le_refl _) ?_))
  intro w1 hown hb1
  have hz1 := hb1.size
  have hg : w.heap.size < w1.heap.size := (own_parts hown).2.2.2.2.2
  have HP1 := Lib.hid (Part.start (k := 1) (R := intR) (h := h) (xs := xs) rfl Nat.one_pos (by rw [Nat.mul_one]; exact hown) ((Live.start hs).below hb1) (hs.none (Nat.le_refl _)) (Nat.le_refl _))
  clear hown
  go_wp2
  go_loopw [4] (fun i wr => ∃ (k : Nat) (hc : Hp), k ≤ xs.length ∧ i = .int .i64 k ∧ Part 1 intR 3 h w.heap.size w.heap.size xs wr k hc ∧ Below w.heap.size w wr) (fun i _ => xs.length - (intOf i).toNat)
  case atStart => exact ⟨0, h, by omega, rfl, HP1.out, hb1⟩
  case round =>
    obtain ⟨k, hc, hk, rfl, hpart, hbel⟩ := hrel
    by_cases hlt : k < xs.length
    · obtain ⟨rows, p1, p2, p3, p4, p5, p6, p7⟩ := hpart
      have hsub : Sub h wr := p5.sub.le p5.le
      have hgw : w.heap.size < wr.heap.size := (own_parts p3).2.2.2.2.2
      obtain ⟨b, off, rfl, hcell⟩ := HV.out.cell hlt
      have c0 := hcell k hlt wr hsub
      have HP4 := Lib.hid p4
      have HP5 := Lib.hid p5
      have HP6 := Lib.hid p6
      have hok := Lib.hid (hm.out _ (List.getElem_mem hlt))
      obtain ⟨⟨o0, g0⟩, f0⟩ := own_cells p3 k (by omega)
      have HS := Lib.hid (own_set p3 k (.int .i64 xs[k]))
      clear hcell p3 p4 p5 p6
      go_wp2_with fail
      go_roundw
      case rel => exact ⟨k + 1, hc, by omega, by go_num, Part.lay [.int .i64 xs[k]] p1 p2 rfl (by simpa [setRow] using HS.out) HP4.out (HLe.refl _) (fun _ _ q => q) hlt ⟨rfl, hok.out⟩ (HP5.out.setCell HP6.out _) HP6.out p7, hbel.setCell (Nat.le_refl _) _⟩
      case measure => simp [intOf]; omega
    · obtain rfl : k = xs.length := by omega
      have HO := Lib.hid (Part.done (R := intR) (fun _ _ _ _ l q => q) hpart)
      clear hpart
      go_wp2
      go_ret
      exact ⟨_, rfl, HO.out, hbel⟩
theorem below_drewI {B : Nat} {a w : World} (h : Below B a w) (n : Nat) : Below B a (w.drewN n) := ⟨h.os, h.tape, h.output, h.size, h.block⟩
theorem laws_eqIntS (w : World) (h : Hp) (hs : Sub h w) (u v : Value) (ss : List Int) (hu : IntS h u ss) (hv : IntS h v ss) :
    Calls Try.prog 115 #[u, v] w fun e w' => e = .returned (.bool true) ∧ Below w.heap.size w w' := by
  have HU := Lib.hid hu
  have HV := Lib.hid hv
  obtain ⟨a, c, rfl, hc1, hc2, -⟩ := hu
  obtain ⟨a', c', rfl, hc1', hc2', -⟩ := hv
  unfold maxLen at hc2 hc2'
  go_enter Try.func115, Try.ntmps115
  go_wp2
  go_loopw [5] (fun i wr => ∃ k : Nat, k ≤ ss.length ∧ i = .int .i64 k ∧ Below w.heap.size w wr) (fun i _ => ss.length - (intOf i).toNat)
  case atStart => exact ⟨0, by omega, rfl, Below.refl _ _⟩
  case round =>
    obtain ⟨k, hk, rfl, hbel⟩ := hrel
    by_cases hlt : k < ss.length
    · obtain ⟨b, off, rfl, hcell⟩ := HU.out.cell hlt
      obtain ⟨b', off', rfl, hcell'⟩ := HV.out.cell hlt
      have hc := hcell k hlt wr (hs.below hbel)
      have hc' := hcell' k hlt wr (hs.below hbel)
      clear hcell hcell'
      go_wp2
      go_quiet (fail)
      go_wp2
      go_roundw
      case rel => exact ⟨k + 1, by omega, by go_num, below_drewI hbel _⟩
      case measure => simp [intOf]; omega
    · go_wp2
      go_ret
      exact ⟨rfl, hbel⟩
end Go.Proofs.Ytokjkmibnjfkaaa
