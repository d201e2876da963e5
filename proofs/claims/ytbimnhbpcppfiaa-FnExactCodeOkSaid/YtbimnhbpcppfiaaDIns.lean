/- Data Ins: how they are read; sizes, copies, comparisons. Printed by gendata.py. -/
import Derived.Test.YtbimnhbpcppfiaaDat
import Derived.Test.YtbimnhbpcppfiaaTy
import Derived.Test.YtbimnhbpcppfiaaSteps
namespace Go.Proofs.Ytbimnhbpcppfiaa
set_option linter.unusedVariables false
set_option linter.unusedSimpArgs false
open Go.RowKit Go.ChangeShapes Go.WideShapes
structure DIns where
  op : Int
  a : Int
  b : Int
  s : ByteArray
def insOk (x : DIns) : Prop := I64 x.op ∧ I64 x.a ∧ I64 x.b ∧ x.s.size ≤ maxLen
def insSmall (x : DIns) : Prop := x.s.size ≤ 1048576
def insR (_ : Hp) (r : List Value) (x : DIns) : Prop := r = [.int .i64 x.op, .int .i64 x.a, .int .i64 x.b, .string x.s] ∧ insOk x
theorem insR_mono {h h' : Hp} {r : List Value} {x : DIns} (_ : HLe h h') (q : insR h r x) : insR h' r x := q
abbrev DInsS (h : Hp) (v : Value) (xs : List DIns) : Prop := SlOf 4 insR h v xs
theorem DInsS.mono {h h' : Hp} {v : Value} {xs : List DIns} (q : DInsS h v xs) (l : HLe h h') : DInsS h' v xs := SlOf.le q l fun _ _ _ q => insR_mono l q
theorem DInsS.mem {h : Hp} {v : Value} {xs : List DIns} (q : DInsS h v xs) : ∀ x ∈ xs, insOk x := by
  obtain ⟨a, c, _, _, _, r⟩ := q
  intro x hx
  rcases r with rfl | ⟨b, off, _, hc⟩
  · cases hx
  · obtain ⟨i, hi, rfl⟩ := List.getElem_of_mem hx
    obtain ⟨_, _, _, hr⟩ := hc i hi
    exact hr.2
theorem DInsS.cell {h : Hp} {a : Option Addr} {n c : Nat} {xs : List DIns} (q : DInsS h (.slice a n c) xs) {i : Nat} (hi : i < xs.length) :
    ∃ b off, a = some ⟨b, off, none⟩ ∧ ∀ j (hj : j < xs.length), ∀ w : World, Sub h w → w.cell? ⟨b, off + j * 4, none⟩ = some (.int .i64 xs[j].op) ∧ w.cell? ⟨b, off + j * 4 + 1, none⟩ = some (.int .i64 xs[j].a) ∧ w.cell? ⟨b, off + j * 4 + 2, none⟩ = some (.int .i64 xs[j].b) ∧ w.cell? ⟨b, off + j * 4 + 3, none⟩ = some (.string xs[j].s) := by
  obtain ⟨a', c', e, _, _, r⟩ := q
  injection e with e1 e2 e3
  subst e1
  rcases r with rfl | ⟨b, off, ea, hc⟩
  · simp at hi
  · refine ⟨b, off, ea, fun j hj => ?_⟩
    obtain ⟨r, hr1, hr2, hr3⟩ := hc j hj
    rw [hr3.1] at hr2
    refine fun w hw => ?_
    exact ⟨hr2.cell hw (i := 0) (by simp), hr2.cell hw (i := 1) (by simp), hr2.cell hw (i := 2) (by simp), hr2.cell hw (i := 3) (by simp)⟩
theorem cells_Ins : Try.prog.cellsOf 205 = 4 := by kernel_rfl
theorem tlen_Ins {cs : List Value} (h : cs.length = 4) : ∃ c0 c1 c2 c3 : Value, cs = [c0, c1, c2, c3] := by
  match cs, h with
  | [c0, c1, c2, c3], _ => exact ⟨c0, c1, c2, c3, rfl⟩
theorem rd_Ins {H : Type} {enc : TypeId × Value → H} {W : World} {n : Nat} {cs : List Value} {x : DataW H × List MemPlace} (h : Rd enc Try.prog W n 205 cs x) : ∃ t : DIns, insR (hp W) cs t := by
  obtain ⟨hl, m, hf⟩ := rd_fields Try.underlying205 h
  rw [cells_Ins] at hl
  obtain ⟨c0, c1, c2, c3, rfl⟩ := tlen_Ins hl
  simp only [List.forall_mem_cons, cells_tint, cells_tstring] at hf
  obtain ⟨⟨_, h0⟩, ⟨_, h1⟩, ⟨_, h2⟩, ⟨_, h3⟩, _⟩ := hf
  obtain ⟨k0, e0, -, z0⟩ := DataW.trod_int Try.underlying3 h0
  simp at e0
  subst e0
  obtain ⟨k1, e1, -, z1⟩ := DataW.trod_int Try.underlying3 h1
  simp at e1
  subst e1
  obtain ⟨k2, e2, -, z2⟩ := DataW.trod_int Try.underlying3 h2
  simp at e2
  subst e2
  obtain ⟨k3, e3, -, z3⟩ := DataW.trod_string Try.underlying9 h3
  simp at e3
  subst e3
  exact ⟨⟨k0, k1, k2, k3⟩, rfl, ⟨i64_of z0, i64_of z1, i64_of z2, z3⟩⟩
theorem info_Ins : (Try.prog.info? 135).map (fun i => (i.zero, i.size, i.bytes)) = some (some (.agg #[.int .i64 0, .int .i64 0, .int .i64 0, .string ByteArray.empty]), 4, 40) := by kernel_rfl
set_option maxRecDepth 100000 in
set_option maxHeartbeats 2000000 in
theorem laws_szIns (w : World) (x : DIns) (hx : insOk x) (left : Int) (h0 : 0 ≤ left) (h1 : left ≤ 1048576) :
    Calls Try.prog 174 #[.agg #[.int .i64 x.op, .int .i64 x.a, .int .i64 x.b, .string x.s], .int .i64 left] w fun e w' => SzS left (insSmall x) e ∧ Below w.heap.size w w' := by
  unfold insOk maxLen at hx
  unfold insSmall
  go_enter Try.func174, Try.ntmps174
  by_cases b0 : left < (x.s.size : Int)
  · go_wp2
    go_ret
    exact ⟨⟨_, rfl, by omega, by omega, by omega⟩, (by repeat (first | with_reducible exact Below.refl _ _ | with_reducible assumption | with_reducible refine Below.setCell ?_ ?_ _ | with_reducible refine Below.alloc ?_ ?_ _ | with_reducible refine Below.drew ?_ | (with_reducible apply below_chain; with_reducible assumption) | exact Nat.le_refl _ | omega | (simp <;> omega)))⟩
  ·
    go_wp2
    go_ret
    exact ⟨⟨_, rfl, by omega, by omega, fun _ => (by omega)⟩, (by repeat (first | with_reducible exact Below.refl _ _ | with_reducible assumption | with_reducible refine Below.setCell ?_ ?_ _ | with_reducible refine Below.alloc ?_ ?_ _ | with_reducible refine Below.drew ?_ | (with_reducible apply below_chain; with_reducible assumption) | exact Nat.le_refl _ | omega | (simp <;> omega)))⟩
set_option maxRecDepth 100000 in
set_option maxHeartbeats 2000000 in
theorem laws_toIns (w : World) (x : DIns) :
    Calls Try.prog 179 #[.agg #[.int .i64 x.op, .int .i64 x.a, .int .i64 x.b, .string x.s]] w fun e w' => e = .returned (.agg #[.int .i64 x.op, .int .i64 x.a, .int .i64 x.b, .string x.s]) ∧ Below w.heap.size w w' := by
  go_enter Try.func179, Try.ntmps179
  go_wp2
  exact bodyPost_ret (v := .agg #[.int .i64 x.op, .int .i64 x.a, .int .i64 x.b, .string x.s]) (by simp [results, Try.results179, go_sem]) rfl ⟨rfl, (by repeat (first | with_reducible exact Below.refl _ _ | with_reducible assumption | with_reducible refine Below.setCell ?_ ?_ _ | with_reducible refine Below.alloc ?_ ?_ _ | with_reducible refine Below.drew ?_ | (with_reducible apply below_chain; with_reducible assumption) | exact Nat.le_refl _ | omega | (simp <;> omega)))⟩
set_option maxRecDepth 100000 in
set_option maxHeartbeats 2000000 in
theorem laws_eqIns (w : World) (x : DIns) :
    Calls Try.prog 185 #[.agg #[.int .i64 x.op, .int .i64 x.a, .int .i64 x.b, .string x.s], .agg #[.int .i64 x.op, .int .i64 x.a, .int .i64 x.b, .string x.s]] w fun e w' => e = .returned (.bool true) ∧ Below w.heap.size w w' := by
  go_enter Try.func185, Try.ntmps185
  go_wp2
  go_ret
  exact ⟨rfl, (by repeat (first | with_reducible exact Below.refl _ _ | with_reducible assumption | with_reducible refine Below.setCell ?_ ?_ _ | with_reducible refine Below.alloc ?_ ?_ _ | with_reducible refine Below.drew ?_ | (with_reducible apply below_chain; with_reducible assumption) | exact Nat.le_refl _ | omega | (simp <;> omega)))⟩
set_option maxRecDepth 100000 in
set_option maxHeartbeats 2000000 in
theorem laws_szInsS (w : World) (h : Hp) (hs : Sub h w) (v : Value) (xs : List DIns) (hv : DInsS h v xs) (left : Int) (h0 : 0 ≤ left) (h1 : left ≤ 1048576) :
    Calls Try.prog 104 #[v, .int .i64 left] w fun e w' => SzS left (SmallS insSmall xs) e ∧ Below w.heap.size w w' := by
  have hm := Lib.hid hv.mem
  have HV := Lib.hid hv
  obtain ⟨a, c, rfl, hc1, hc2, -⟩ := hv
  unfold maxLen at hc2
  by_cases hl : left < xs.length
  · go_enter Try.func104, Try.ntmps104
    go_wp2
    go_ret
    exact ⟨⟨_, rfl, by omega, by omega, by omega⟩, Below.refl _ _⟩
  · go_enter Try.func104, Try.ntmps104
    go_wp2
    go_loopw [1, 5] (fun lv i wr => ∃ (k : Nat) (r : Int), i = .int .i64 k ∧ lv = .int .i64 r ∧ k ≤ xs.length ∧ 0 ≤ r ∧ r ≤ left ∧ (∀ j (h : j < xs.length), j < k → insSmall xs[j]) ∧ Below w.heap.size w wr) (fun _ i _ => xs.length - (intOf i).toNat)
    case atStart => exact ⟨0, _, rfl, rfl, by omega, by omega, by omega, fun _ _ hj => absurd hj (by omega), Below.refl _ _⟩
    case round =>
      obtain ⟨k, r, rfl, rfl, hk, hr0, hr1, hsm, hbel⟩ := hrel
      have HSm := Lib.hid hsm
      clear hsm
      by_cases hlt : k < xs.length
      · skip
        obtain ⟨b, off, rfl, hcell⟩ := HV.out.cell hlt
        obtain ⟨c0, c1, c2, c3⟩ := hcell k hlt wr (hs.below hbel)
        have hok := Lib.hid (hm.out _ (List.getElem_mem hlt))
        have hsr := hs.below hbel
        clear hcell
        go_wp2_with fail
        refine (laws_szIns _ xs[k] hok.out r hr0 (by omega)).mono ?_
        rintro e w1 ⟨⟨r1, rfl, u1, y1, z1⟩, hb1⟩
        have HZ := Lib.hid z1
        clear z1
        by_cases m1 : r1 < 0
        · go_wp2_with fail
          go_ret
          exact ⟨⟨_, rfl, by omega, by omega, by omega⟩, below_chain hb1 hbel hbel.size⟩
        · go_wp2_with fail
          go_roundw
          case rel => exact ⟨k + 1, r1, by go_num, rfl, by omega, by omega, by omega, fun j hj hjk => by
            rcases Nat.lt_or_ge j k with hj' | hj'
            · exact HSm.out j hj hj'
            · obtain rfl : j = k := by omega
              exact HZ.out (by omega), below_chain hb1 hbel hbel.size⟩
          case measure => simp [intOf]; omega
      · go_wp2
        go_ret
        exact ⟨⟨_, rfl, by omega, by omega, fun _ => ⟨by omega, fun j hj => HSm.out j hj (by omega)⟩⟩, hbel⟩
def inssPost (h : Hp) (w : World) (xs : List DIns) (e : Ending) (w' : World) : Prop := ∃ v', e = .returned v' ∧ DInsS (ext h w.heap.size w') v' xs ∧ Below w.heap.size w w'
set_option maxRecDepth 100000 in
set_option maxHeartbeats 2000000 in
theorem laws_toInsS (w : World) (h : Hp) (hs : Sub h w) (v : Value) (xs : List DIns) (hv : DInsS h v xs) (hsm : SmallS insSmall xs) :
    Calls Try.prog 107 #[v] w fun e w' => inssPost h w xs e w' := by
  have hm := Lib.hid hv.mem
  have HV := Lib.hid hv
  have HSm := Lib.hid hsm.2
  have hl := hsm.1
  clear hsm
  obtain ⟨a, c, rfl, hc1, hc2, -⟩ := hv
  unfold maxLen at hc2
  have hlm : xs.length ≤ maxLen := by unfold maxLen; omega
  go_enter Try.func107, Try.ntmps107
  go_wp2_with (first | (at_make; refine make_n Try.underlying70 info_Ins w rfl _ _ rfl w.heap.size _ _ xs.length rfl rfl rfl rfl (by omega) hlm (Nat.le_refl _) ?_))
  intro w1 hown hb1
  have hz1 := hb1.size
  have hg : w.heap.size < w1.heap.size := (own_parts hown).2.2.2.2.2
  have HP1 := Lib.hid (Part.start (R := insR) (h := h) (xs := xs) rfl (by decide) hown ((Live.start hs).below hb1) (hs.none (Nat.le_refl _)) (Nat.le_refl _))
  clear hown
  go_wp2
  go_loopw [4] (fun i wr => ∃ (k : Nat) (hc : Hp), k ≤ xs.length ∧ i = .int .i64 k ∧ Part 4 insR 135 h w.heap.size w.heap.size xs wr k hc ∧ Below w.heap.size w wr) (fun i _ => xs.length - (intOf i).toNat)
  case atStart => exact ⟨0, h, by omega, rfl, HP1.out, hb1⟩
  case round =>
    obtain ⟨k, hc, hk, rfl, hpart, hbel⟩ := hrel
    by_cases hlt : k < xs.length
    · obtain ⟨rows, p1, p2, p3, p4, p5, p6, p7⟩ := hpart
      have hsub : Sub h wr := p5.sub.le p5.le
      have hgw : w.heap.size < wr.heap.size := (own_parts p3).2.2.2.2.2
      obtain ⟨b, off, rfl, hcell⟩ := HV.out.cell hlt
      obtain ⟨c0, c1, c2, c3⟩ := hcell k hlt wr (hsub)
      have HP3 := Lib.hid p3
      have HP4 := Lib.hid p4
      have HP5 := Lib.hid p5
      have HP6 := Lib.hid p6
      have hok := Lib.hid (hm.out _ (List.getElem_mem hlt))
      clear hcell p3 p4 p5 p6
      go_wp2_with fail
      refine (laws_toIns _ xs[k]).mono ?_
      rintro e w2 ⟨rfl, hb2⟩
      have HW2 := Lib.hid (own_kept HP3.out hb2 (Nat.le_refl _))
      have hz2 := hb2.size

      obtain ⟨⟨o0, g0⟩, f0⟩ := own_cells HW2.out (k * 4) (by omega)
      obtain ⟨⟨o1, g1⟩, f1⟩ := own_cells HW2.out (k * 4 + 1) (by omega)
      obtain ⟨⟨o2, g2⟩, f2⟩ := own_cells HW2.out (k * 4 + 2) (by omega)
      obtain ⟨⟨o3, g3⟩, f3⟩ := own_cells HW2.out (k * 4 + 3) (by omega)
      have HL := Lib.hid (HP5.out.below hb2)
      have HG := Lib.hid HP6.out
      have HS := Lib.hid (own_set (own_set (own_set (own_set HW2.out (k * 4) (.int .i64 xs[k].op)) (k * 4 + 1) (.int .i64 xs[k].a)) (k * 4 + 2) (.int .i64 xs[k].b)) (k * 4 + 3) (.string xs[k].s))
      go_wp2_with fail
      go_roundw
      case rel => exact ⟨k + 1, _, by omega, by go_num, Part.lay [.int .i64 xs[k].op, .int .i64 xs[k].a, .int .i64 xs[k].b, .string xs[k].s] p1 p2 rfl HS.out HP4.out (HLe.refl _) (fun _ _ => insR_mono (HLe.refl _)) hlt ⟨rfl, hok.out⟩ ((((HL.out.setCell HG.out _).setCell HG.out _).setCell HG.out _).setCell HG.out _) HG.out p7, (((((below_chain hb2 hbel hbel.size).setCell (Nat.le_refl _) _).setCell (Nat.le_refl _) _).setCell (Nat.le_refl _) _).setCell (Nat.le_refl _) _)⟩
      case measure => simp [intOf]; omega
    · obtain rfl : k = xs.length := by omega
      have HO := Lib.hid (Part.done (R := insR) (fun _ _ _ _ l q => insR_mono l q) hpart)
      clear hpart
      go_wp2
      go_ret
      exact ⟨_, rfl, HO.out, hbel⟩
set_option maxRecDepth 100000 in
set_option maxHeartbeats 2000000 in
theorem laws_eqInsS (w : World) (h : Hp) (hs : Sub h w) (u v : Value) (xs : List DIns) (hu : DInsS h u xs) (hv : DInsS h v xs) :
    Calls Try.prog 114 #[u, v] w fun e w' => e = .returned (.bool true) ∧ Below w.heap.size w w' := by
  have HU := Lib.hid hu
  have HV := Lib.hid hv
  obtain ⟨a, c, rfl, hc1, hc2, -⟩ := hu
  obtain ⟨a', c', rfl, hc1', hc2', -⟩ := hv
  unfold maxLen at hc2 hc2'
  go_enter Try.func114, Try.ntmps114
  go_wp2
  go_loopw [5] (fun i wr => ∃ k : Nat, k ≤ xs.length ∧ i = .int .i64 k ∧ Below w.heap.size w wr) (fun i _ => xs.length - (intOf i).toNat)
  case atStart => exact ⟨0, by omega, rfl, Below.refl _ _⟩
  case round =>
    obtain ⟨k, hk, rfl, hbel⟩ := hrel
    by_cases hlt : k < xs.length
    · skip
      obtain ⟨b, off, rfl, hcell⟩ := HU.out.cell hlt
      obtain ⟨c0, c1, c2, c3⟩ := hcell k hlt wr (hs.below hbel)
      obtain ⟨b', off', rfl, hcell'⟩ := HV.out.cell hlt
      obtain ⟨d0, d1, d2, d3⟩ := hcell' k hlt wr (hs.below hbel)
      have HSr := Lib.hid (hs.below hbel)
      clear hcell hcell'
      go_wp2_with fail
      go_region_law (first | (refine step_guard rfl ?_; go_simp; go_at_call 185; refine (laws_eqIns _ xs[k]).mono ?_; rintro e w2 ⟨rfl, hb2⟩; dsimp only; replace hb2 := below_undrew hb2))
      all_goals
        go_wp2
        all_goals
          refine ⟨⟨k + 1, by omega, by go_num, below_chain hb2 hbel hbel.size⟩, ?_⟩
          simp [intOf]; omega
    · go_wp2
      go_ret
      exact ⟨rfl, hbel⟩
theorem cells_sIns : Try.prog.cellsOf 64 = 1 := by kernel_rfl
theorem rd_InsS {H : Type} {enc : TypeId × Value → H} {W : World} {n : Nat} {cs : List Value} {x : DataW H × List MemPlace} (h : Rd enc Try.prog W n 64 cs x) : ∃ v xs, cs = [v] ∧ DInsS (hp W) v xs :=
  rd_slice 4 insR Try.underlying64 cells_Ins (by decide) (fun n cs' y hy => rd_Ins hy) h
end Go.Proofs.Ytbimnhbpcppfiaa
