/- Data Cell: how they are read; sizes, copies, comparisons. Printed by gendata.py. -/
import Derived.Test.YthpphiplbaehdaaDVal
namespace Go.Proofs.Ythpphiplbaehdaa
set_option linter.unusedVariables false
set_option linter.unusedSimpArgs false
open Go.RowKit Go.ChangeShapes Go.WideShapes
structure DCell where
  kind : Int
  n : Int
  s : ByteArray
  a : DVal
  b : DVal
def cellOk (x : DCell) : Prop := I64 x.kind ∧ I64 x.n ∧ x.s.size ≤ maxLen ∧ I64 x.a.kind ∧ I64 x.a.n ∧ x.a.s.size ≤ maxLen ∧ I64 x.b.kind ∧ I64 x.b.n ∧ x.b.s.size ≤ maxLen
def cellSmall (x : DCell) : Prop := x.s.size ≤ 1048576 ∧ x.a.s.size ≤ 1048576 ∧ x.b.s.size ≤ 1048576
def cellR (_ : Hp) (r : List Value) (x : DCell) : Prop := r = [.int .i64 x.kind, .int .i64 x.n, .string x.s, .int .i64 x.a.kind, .int .i64 x.a.n, .string x.a.s, .int .i64 x.b.kind, .int .i64 x.b.n, .string x.b.s] ∧ cellOk x
theorem cellR_mono {h h' : Hp} {r : List Value} {x : DCell} (_ : HLe h h') (q : cellR h r x) : cellR h' r x := q
abbrev DCellS (h : Hp) (v : Value) (xs : List DCell) : Prop := SlOf 9 cellR h v xs
theorem DCellS.mono {h h' : Hp} {v : Value} {xs : List DCell} (q : DCellS h v xs) (l : HLe h h') : DCellS h' v xs := SlOf.le q l fun _ _ _ q => cellR_mono l q
theorem DCellS.mem {h : Hp} {v : Value} {xs : List DCell} (q : DCellS h v xs) : ∀ x ∈ xs, cellOk x := by
  obtain ⟨a, c, _, _, _, r⟩ := q
  intro x hx
  rcases r with rfl | ⟨b, off, _, hc⟩
  · cases hx
  · obtain ⟨i, hi, rfl⟩ := List.getElem_of_mem hx
    obtain ⟨_, _, _, hr⟩ := hc i hi
    exact hr.2
theorem DCellS.cell {h : Hp} {a : Option Addr} {n c : Nat} {xs : List DCell} (q : DCellS h (.slice a n c) xs) {i : Nat} (hi : i < xs.length) :
    ∃ b off, a = some ⟨b, off, none⟩ ∧ ∀ j (hj : j < xs.length), ∀ w : World, Sub h w → w.cell? ⟨b, off + j * 9, none⟩ = some (.int .i64 xs[j].kind) ∧ w.cell? ⟨b, off + j * 9 + 1, none⟩ = some (.int .i64 xs[j].n) ∧ w.cell? ⟨b, off + j * 9 + 2, none⟩ = some (.string xs[j].s) ∧ w.cell? ⟨b, off + j * 9 + 3, none⟩ = some (.int .i64 xs[j].a.kind) ∧ w.cell? ⟨b, off + j * 9 + 4, none⟩ = some (.int .i64 xs[j].a.n) ∧ w.cell? ⟨b, off + j * 9 + 5, none⟩ = some (.string xs[j].a.s) ∧ w.cell? ⟨b, off + j * 9 + 6, none⟩ = some (.int .i64 xs[j].b.kind) ∧ w.cell? ⟨b, off + j * 9 + 7, none⟩ = some (.int .i64 xs[j].b.n) ∧ w.cell? ⟨b, off + j * 9 + 8, none⟩ = some (.string xs[j].b.s) := by
  obtain ⟨a', c', e, _, _, r⟩ := q
  injection e with e1 e2 e3
  subst e1
  rcases r with rfl | ⟨b, off, ea, hc⟩
  · simp at hi
  · refine ⟨b, off, ea, fun j hj => ?_⟩
    obtain ⟨r, hr1, hr2, hr3⟩ := hc j hj
    rw [hr3.1] at hr2
    refine fun w hw => ?_
    exact ⟨hr2.cell hw (i := 0) (by simp), hr2.cell hw (i := 1) (by simp), hr2.cell hw (i := 2) (by simp), hr2.cell hw (i := 3) (by simp), hr2.cell hw (i := 4) (by simp), hr2.cell hw (i := 5) (by simp), hr2.cell hw (i := 6) (by simp), hr2.cell hw (i := 7) (by simp), hr2.cell hw (i := 8) (by simp)⟩
theorem cells_Cell : Try.prog.cellsOf 111 = 9 := by kernel_rfl
theorem tlen_Cell {cs : List Value} (h : cs.length = 9) : ∃ c0 c1 c2 c3 c4 c5 c6 c7 c8 : Value, cs = [c0, c1, c2, c3, c4, c5, c6, c7, c8] := by
  match cs, h with
  | [c0, c1, c2, c3, c4, c5, c6, c7, c8], _ => exact ⟨c0, c1, c2, c3, c4, c5, c6, c7, c8, rfl⟩
theorem rd_Cell {H : Type} {enc : TypeId × Value → H} {W : World} {n : Nat} {cs : List Value} {x : DataW H × List MemPlace} (h : Rd enc Try.prog W n 111 cs x) : ∃ t : DCell, cellR (hp W) cs t := by
  obtain ⟨hl, m, hf⟩ := rd_fields Try.underlying111 h
  rw [cells_Cell] at hl
  obtain ⟨c0, c1, c2, c3, c4, c5, c6, c7, c8, rfl⟩ := tlen_Cell hl
  simp only [List.forall_mem_cons, cells_tint, cells_tstring, cells_Val] at hf
  obtain ⟨⟨_, h0⟩, ⟨_, h1⟩, ⟨_, h2⟩, ⟨_, h3⟩, ⟨_, h4⟩, _⟩ := hf
  obtain ⟨k0, e0, -, z0⟩ := DataW.trod_int Try.underlying3 h0
  simp at e0
  subst e0
  obtain ⟨k1, e1, -, z1⟩ := DataW.trod_int Try.underlying3 h1
  simp at e1
  subst e1
  obtain ⟨k2, e2, -, z2⟩ := DataW.trod_string Try.underlying9 h2
  simp at e2
  subst e2
  obtain ⟨k3, e3, z3⟩ := rd_Val h3
  simp at e3
  obtain ⟨rfl, rfl, rfl⟩ := e3
  obtain ⟨k4, e4, z4⟩ := rd_Val h4
  simp at e4
  obtain ⟨rfl, rfl, rfl⟩ := e4
  exact ⟨⟨k0, k1, k2, k3, k4⟩, rfl, ⟨i64_of z0, i64_of z1, z2, z3.1, z3.2.1, z3.2.2, z4.1, z4.2.1, z4.2.2⟩⟩
theorem info_Cell : (Try.prog.info? 115).map (fun i => (i.zero, i.size, i.bytes)) = some (some (.agg #[.int .i64 0, .int .i64 0, .string ByteArray.empty, .int .i64 0, .int .i64 0, .string ByteArray.empty, .int .i64 0, .int .i64 0, .string ByteArray.empty]), 9, 96) := by kernel_rfl
set_option maxRecDepth 100000 in
set_option maxHeartbeats 2000000 in
theorem laws_szCell (w : World) (x : DCell) (hx : cellOk x) (left : Int) (h0 : 0 ≤ left) (h1 : left ≤ 1048576) :
    Calls Try.prog 68 #[.agg #[.int .i64 x.kind, .int .i64 x.n, .string x.s, .int .i64 x.a.kind, .int .i64 x.a.n, .string x.a.s, .int .i64 x.b.kind, .int .i64 x.b.n, .string x.b.s], .int .i64 left] w fun e w' => SzS left (cellSmall x) e ∧ Below w.heap.size w w' := by
  unfold cellOk maxLen at hx
  unfold cellSmall
  go_enter Try.func68, Try.ntmps68
  by_cases b0 : left < (x.s.size : Int)
  · go_wp2
    go_ret
    exact ⟨⟨_, rfl, by omega, by omega, by omega⟩, (by repeat (first | with_reducible exact Below.refl _ _ | with_reducible assumption | with_reducible refine Below.setCell ?_ ?_ _ | with_reducible refine Below.alloc ?_ ?_ _ | with_reducible refine Below.drew ?_ | (with_reducible apply below_chain; with_reducible assumption) | exact Nat.le_refl _ | omega | (simp <;> omega)))⟩
  ·
    go_wp2_with fail
    refine (laws_szVal _ x.a ⟨hx.2.2.2.1, hx.2.2.2.2.1, hx.2.2.2.2.2.1⟩ (left - (x.s.size : Int)) (by omega) (by omega)).mono ?_
    rintro e w2 ⟨⟨r2, rfl, u2, y2, z2⟩, hb2⟩
    obtain ⟨kc2, kf2⟩ := bcell hb2; have kz2 := hb2.size; (try simp at kz2); (first | (refine (fun (kw2_0 : w.heap.size  < w2.heap.size) => ?_) ?_; rotate_left; omega) | skip); (first | (refine (fun (kw2_1 : w.heap.size + 1 < w2.heap.size) => ?_) ?_; rotate_left; omega) | skip); (first | (refine (fun (kw2_2 : w.heap.size + 1 + 1 < w2.heap.size) => ?_) ?_; rotate_left; omega) | skip)
    by_cases m2 : r2 < 0
    · go_wp2_with fail
      go_ret
      exact ⟨⟨_, rfl, by omega, by omega, by omega⟩, (by repeat (first | with_reducible exact Below.refl _ _ | with_reducible assumption | with_reducible refine Below.setCell ?_ ?_ _ | with_reducible refine Below.alloc ?_ ?_ _ | with_reducible refine Below.drew ?_ | (with_reducible apply below_chain; with_reducible assumption) | exact Nat.le_refl _ | omega | (simp <;> omega)))⟩
    ·
      go_wp2_with fail
      refine (laws_szVal _ x.b ⟨hx.2.2.2.2.2.2.1, hx.2.2.2.2.2.2.2.1, hx.2.2.2.2.2.2.2.2⟩ r2 (by omega) (by omega)).mono ?_
      rintro e w3 ⟨⟨r3, rfl, u3, y3, z3⟩, hb3⟩
      obtain ⟨kc3, kf3⟩ := bcell hb3; have kz3 := hb3.size; (try simp at kz3); (first | (refine (fun (kw3_0 : w.heap.size  < w3.heap.size) => ?_) ?_; rotate_left; omega) | skip); (first | (refine (fun (kw3_1 : w.heap.size + 1 < w3.heap.size) => ?_) ?_; rotate_left; omega) | skip); (first | (refine (fun (kw3_2 : w.heap.size + 1 + 1 < w3.heap.size) => ?_) ?_; rotate_left; omega) | skip)
      by_cases m3 : r3 < 0
      · go_wp2_with fail
        go_ret
        exact ⟨⟨_, rfl, by omega, by omega, by omega⟩, (by repeat (first | with_reducible exact Below.refl _ _ | with_reducible assumption | with_reducible refine Below.setCell ?_ ?_ _ | with_reducible refine Below.alloc ?_ ?_ _ | with_reducible refine Below.drew ?_ | (with_reducible apply below_chain; with_reducible assumption) | exact Nat.le_refl _ | omega | (simp <;> omega)))⟩
      ·
        go_wp2_with fail
        go_ret
        exact ⟨⟨_, rfl, by omega, by omega, fun _ => ⟨by omega, (show x.a.s.size ≤ 1048576 from z2 (by omega)), (show x.b.s.size ≤ 1048576 from z3 (by omega))⟩⟩, (by repeat (first | with_reducible exact Below.refl _ _ | with_reducible assumption | with_reducible refine Below.setCell ?_ ?_ _ | with_reducible refine Below.alloc ?_ ?_ _ | with_reducible refine Below.drew ?_ | (with_reducible apply below_chain; with_reducible assumption) | exact Nat.le_refl _ | omega | (simp <;> omega)))⟩
set_option maxRecDepth 100000 in
set_option maxHeartbeats 2000000 in
theorem laws_toCell (w : World) (x : DCell) :
    Calls Try.prog 72 #[.agg #[.int .i64 x.kind, .int .i64 x.n, .string x.s, .int .i64 x.a.kind, .int .i64 x.a.n, .string x.a.s, .int .i64 x.b.kind, .int .i64 x.b.n, .string x.b.s]] w fun e w' => e = .returned (.agg #[.int .i64 x.kind, .int .i64 x.n, .string x.s, .int .i64 x.a.kind, .int .i64 x.a.n, .string x.a.s, .int .i64 x.b.kind, .int .i64 x.b.n, .string x.b.s]) ∧ Below w.heap.size w w' := by
  go_enter Try.func72, Try.ntmps72
  go_wp2_with fail
  refine (laws_toVal _ x.a).mono ?_
  rintro e w1 ⟨rfl, hb1⟩
  obtain ⟨kc1, kf1⟩ := bcell hb1; have kz1 := hb1.size; (try simp at kz1); (first | (refine (fun (kw1_0 : w.heap.size  < w1.heap.size) => ?_) ?_; rotate_left; omega) | skip); (first | (refine (fun (kw1_1 : w.heap.size + 1 < w1.heap.size) => ?_) ?_; rotate_left; omega) | skip); (first | (refine (fun (kw1_2 : w.heap.size + 1 + 1 < w1.heap.size) => ?_) ?_; rotate_left; omega) | skip)
  go_wp2_with fail
  refine (laws_toVal _ x.b).mono ?_
  rintro e w2 ⟨rfl, hb2⟩
  obtain ⟨kc2, kf2⟩ := bcell hb2; have kz2 := hb2.size; (try simp at kz2); (first | (refine (fun (kw2_0 : w.heap.size  < w2.heap.size) => ?_) ?_; rotate_left; omega) | skip); (first | (refine (fun (kw2_1 : w.heap.size + 1 < w2.heap.size) => ?_) ?_; rotate_left; omega) | skip); (first | (refine (fun (kw2_2 : w.heap.size + 1 + 1 < w2.heap.size) => ?_) ?_; rotate_left; omega) | skip)
  go_wp2_with fail
  exact bodyPost_ret (v := .agg #[.int .i64 x.kind, .int .i64 x.n, .string x.s, .int .i64 x.a.kind, .int .i64 x.a.n, .string x.a.s, .int .i64 x.b.kind, .int .i64 x.b.n, .string x.b.s]) (by simp [results, Try.results72, go_sem, kc1, kc2, kw1_0, kw1_1, kw1_2]) rfl ⟨rfl, (by repeat (first | with_reducible exact Below.refl _ _ | with_reducible assumption | with_reducible refine Below.setCell ?_ ?_ _ | with_reducible refine Below.alloc ?_ ?_ _ | with_reducible refine Below.drew ?_ | (with_reducible apply below_chain; with_reducible assumption) | exact Nat.le_refl _ | omega | (simp <;> omega)))⟩
set_option maxRecDepth 100000 in
set_option maxHeartbeats 2000000 in
theorem laws_eqCell (w : World) (x : DCell) :
    Calls Try.prog 78 #[.agg #[.int .i64 x.kind, .int .i64 x.n, .string x.s, .int .i64 x.a.kind, .int .i64 x.a.n, .string x.a.s, .int .i64 x.b.kind, .int .i64 x.b.n, .string x.b.s], .agg #[.int .i64 x.kind, .int .i64 x.n, .string x.s, .int .i64 x.a.kind, .int .i64 x.a.n, .string x.a.s, .int .i64 x.b.kind, .int .i64 x.b.n, .string x.b.s]] w fun e w' => e = .returned (.bool true) ∧ Below w.heap.size w w' := by
  go_enter Try.func78, Try.ntmps78
  go_wp2_with fail
  refine (laws_eqVal _ x.a).mono ?_
  rintro e w1 ⟨rfl, hb1⟩
  obtain ⟨kc1, kf1⟩ := bcell hb1; have kz1 := hb1.size; (try simp at kz1); (first | (refine (fun (kw1_0 : w.heap.size  < w1.heap.size) => ?_) ?_; rotate_left; omega) | skip); (first | (refine (fun (kw1_1 : w.heap.size + 1 < w1.heap.size) => ?_) ?_; rotate_left; omega) | skip); (first | (refine (fun (kw1_2 : w.heap.size + 1 + 1 < w1.heap.size) => ?_) ?_; rotate_left; omega) | skip)
  go_wp2_with fail
  refine (laws_eqVal _ x.b).mono ?_
  rintro e w2 ⟨rfl, hb2⟩
  obtain ⟨kc2, kf2⟩ := bcell hb2; have kz2 := hb2.size; (try simp at kz2); (first | (refine (fun (kw2_0 : w.heap.size  < w2.heap.size) => ?_) ?_; rotate_left; omega) | skip); (first | (refine (fun (kw2_1 : w.heap.size + 1 < w2.heap.size) => ?_) ?_; rotate_left; omega) | skip); (first | (refine (fun (kw2_2 : w.heap.size + 1 + 1 < w2.heap.size) => ?_) ?_; rotate_left; omega) | skip)
  go_wp2_with fail
  go_ret
  exact ⟨rfl, (by repeat (first | with_reducible exact Below.refl _ _ | with_reducible assumption | with_reducible refine Below.setCell ?_ ?_ _ | with_reducible refine Below.alloc ?_ ?_ _ | with_reducible refine Below.drew ?_ | (with_reducible apply below_chain; with_reducible assumption) | exact Nat.le_refl _ | omega | (simp <;> omega)))⟩
set_option maxRecDepth 100000 in
set_option maxHeartbeats 2000000 in
theorem laws_szCellS (w : World) (h : Hp) (hs : Sub h w) (v : Value) (xs : List DCell) (hv : DCellS h v xs) (left : Int) (h0 : 0 ≤ left) (h1 : left ≤ 1048576) :
    Calls Try.prog 20 #[v, .int .i64 left] w fun e w' => SzS left (SmallS cellSmall xs) e ∧ Below w.heap.size w w' := by
  have hm := Lib.hid hv.mem
  have HV := Lib.hid hv
  obtain ⟨a, c, rfl, hc1, hc2, -⟩ := hv
  unfold maxLen at hc2
  by_cases hl : left < xs.length
  · go_enter Try.func20, Try.ntmps20
    go_wp2
    go_ret
    exact ⟨⟨_, rfl, by omega, by omega, by omega⟩, Below.refl _ _⟩
  · go_enter Try.func20, Try.ntmps20
    go_wp2
    go_loopw [1, 5] (fun lv i wr => ∃ (k : Nat) (r : Int), i = .int .i64 k ∧ lv = .int .i64 r ∧ k ≤ xs.length ∧ 0 ≤ r ∧ r ≤ left ∧ (∀ j (h : j < xs.length), j < k → cellSmall xs[j]) ∧ Below w.heap.size w wr) (fun _ i _ => xs.length - (intOf i).toNat)
    case atStart => exact ⟨0, _, rfl, rfl, by omega, by omega, by omega, fun _ _ hj => absurd hj (by omega), Below.refl _ _⟩
    case round =>
      obtain ⟨k, r, rfl, rfl, hk, hr0, hr1, hsm, hbel⟩ := hrel
      have HSm := Lib.hid hsm
      clear hsm
      by_cases hlt : k < xs.length
      · skip
        obtain ⟨b, off, rfl, hcell⟩ := HV.out.cell hlt
        obtain ⟨c0, c1, c2, c3, c4, c5, c6, c7, c8⟩ := hcell k hlt wr (hs.below hbel)
        have hok := Lib.hid (hm.out _ (List.getElem_mem hlt))
        have hsr := hs.below hbel
        clear hcell
        go_wp2_with fail
        refine (laws_szCell _ xs[k] hok.out r hr0 (by omega)).mono ?_
        rintro e w1 ⟨⟨r1, rfl, u1, y1, z1⟩, hb1⟩
        have HZ := Lib.hid z1
        clear z1
        by_cases m1 : r1 < 0
        · go_wp2_with fail
          go_ret
          exact ⟨⟨_, rfl, by omega, by omega, by omega⟩, below_chain hb1 hbel hbel.size⟩
        · go_wp2_with fail
          go_roundw
          case rel => exact ⟨k + 1, r1, by go_num, rfl, by omega, by omega, by omega, fun j hj hjk => by
            rcases Nat.lt_or_ge j k with hj' | hj'
            · exact HSm.out j hj hj'
            · obtain rfl : j = k := by omega
              exact HZ.out (by omega), below_chain hb1 hbel hbel.size⟩
          case measure => simp [intOf]; omega
      · go_wp2
        go_ret
        exact ⟨⟨_, rfl, by omega, by omega, fun _ => ⟨by omega, fun j hj => HSm.out j hj (by omega)⟩⟩, hbel⟩
def cellsPost (h : Hp) (w : World) (xs : List DCell) (e : Ending) (w' : World) : Prop := ∃ v', e = .returned v' ∧ DCellS (ext h w.heap.size w') v' xs ∧ Below w.heap.size w w'
set_option maxRecDepth 100000 in
set_option maxHeartbeats 2000000 in
theorem laws_toCellS (w : World) (h : Hp) (hs : Sub h w) (v : Value) (xs : List DCell) (hv : DCellS h v xs) (hsm : SmallS cellSmall xs) :
    Calls Try.prog 23 #[v] w fun e w' => cellsPost h w xs e w' := by
  have hm := Lib.hid hv.mem
  have HV := Lib.hid hv
  have HSm := Lib.hid hsm.2
  have hl := hsm.1
  clear hsm
  obtain ⟨a, c, rfl, hc1, hc2, -⟩ := hv
  unfold maxLen at hc2
  have hlm : xs.length ≤ maxLen := by unfold maxLen; omega
  go_enter Try.func23, Try.ntmps23
  go_wp2_with (first | (at_make; refine make_n Try.underlying38 info_Cell w rfl _ _ rfl w.heap.size _ _ xs.length rfl rfl rfl rfl (by omega) hlm (Nat.le_refl _) ?_))
  intro w1 hown hb1
  have hz1 := hb1.size
  have hg : w.heap.size < w1.heap.size := (own_parts hown).2.2.2.2.2
  have HP1 := Lib.hid (Part.start (R := cellR) (h := h) (xs := xs) rfl (by decide) hown ((Live.start hs).below hb1) (hs.none (Nat.le_refl _)) (Nat.le_refl _))
  clear hown
  go_wp2
  go_loopw [4] (fun i wr => ∃ (k : Nat) (hc : Hp), k ≤ xs.length ∧ i = .int .i64 k ∧ Part 9 cellR 115 h w.heap.size w.heap.size xs wr k hc ∧ Below w.heap.size w wr) (fun i _ => xs.length - (intOf i).toNat)
  case atStart => exact ⟨0, h, by omega, rfl, HP1.out, hb1⟩
  case round =>
    obtain ⟨k, hc, hk, rfl, hpart, hbel⟩ := hrel
    by_cases hlt : k < xs.length
    · obtain ⟨rows, p1, p2, p3, p4, p5, p6, p7⟩ := hpart
      have hsub : Sub h wr := p5.sub.le p5.le
      have hgw : w.heap.size < wr.heap.size := (own_parts p3).2.2.2.2.2
      obtain ⟨b, off, rfl, hcell⟩ := HV.out.cell hlt
      obtain ⟨c0, c1, c2, c3, c4, c5, c6, c7, c8⟩ := hcell k hlt wr (hsub)
      have HP3 := Lib.hid p3
      have HP4 := Lib.hid p4
      have HP5 := Lib.hid p5
      have HP6 := Lib.hid p6
      have hok := Lib.hid (hm.out _ (List.getElem_mem hlt))
      clear hcell p3 p4 p5 p6
      go_wp2_with fail
      refine (laws_toCell _ xs[k]).mono ?_
      rintro e w2 ⟨rfl, hb2⟩
      have HW2 := Lib.hid (own_kept HP3.out hb2 (Nat.le_refl _))
      have hz2 := hb2.size

      obtain ⟨⟨o0, g0⟩, f0⟩ := own_cells HW2.out (k * 9) (by omega)
      obtain ⟨⟨o1, g1⟩, f1⟩ := own_cells HW2.out (k * 9 + 1) (by omega)
      obtain ⟨⟨o2, g2⟩, f2⟩ := own_cells HW2.out (k * 9 + 2) (by omega)
      obtain ⟨⟨o3, g3⟩, f3⟩ := own_cells HW2.out (k * 9 + 3) (by omega)
      obtain ⟨⟨o4, g4⟩, f4⟩ := own_cells HW2.out (k * 9 + 4) (by omega)
      obtain ⟨⟨o5, g5⟩, f5⟩ := own_cells HW2.out (k * 9 + 5) (by omega)
      obtain ⟨⟨o6, g6⟩, f6⟩ := own_cells HW2.out (k * 9 + 6) (by omega)
      obtain ⟨⟨o7, g7⟩, f7⟩ := own_cells HW2.out (k * 9 + 7) (by omega)
      obtain ⟨⟨o8, g8⟩, f8⟩ := own_cells HW2.out (k * 9 + 8) (by omega)
      have HL := Lib.hid (HP5.out.below hb2)
      have HG := Lib.hid HP6.out
      have HS := Lib.hid (own_set (own_set (own_set (own_set (own_set (own_set (own_set (own_set (own_set HW2.out (k * 9) (.int .i64 xs[k].kind)) (k * 9 + 1) (.int .i64 xs[k].n)) (k * 9 + 2) (.string xs[k].s)) (k * 9 + 3) (.int .i64 xs[k].a.kind)) (k * 9 + 4) (.int .i64 xs[k].a.n)) (k * 9 + 5) (.string xs[k].a.s)) (k * 9 + 6) (.int .i64 xs[k].b.kind)) (k * 9 + 7) (.int .i64 xs[k].b.n)) (k * 9 + 8) (.string xs[k].b.s))
      go_wp2_with fail
      go_roundw
      case rel => exact ⟨k + 1, _, by omega, by go_num, Part.lay [.int .i64 xs[k].kind, .int .i64 xs[k].n, .string xs[k].s, .int .i64 xs[k].a.kind, .int .i64 xs[k].a.n, .string xs[k].a.s, .int .i64 xs[k].b.kind, .int .i64 xs[k].b.n, .string xs[k].b.s] p1 p2 rfl HS.out HP4.out (HLe.refl _) (fun _ _ => cellR_mono (HLe.refl _)) hlt ⟨rfl, hok.out⟩ (((((((((HL.out.setCell HG.out _).setCell HG.out _).setCell HG.out _).setCell HG.out _).setCell HG.out _).setCell HG.out _).setCell HG.out _).setCell HG.out _).setCell HG.out _) HG.out p7, ((((((((((below_chain hb2 hbel hbel.size).setCell (Nat.le_refl _) _).setCell (Nat.le_refl _) _).setCell (Nat.le_refl _) _).setCell (Nat.le_refl _) _).setCell (Nat.le_refl _) _).setCell (Nat.le_refl _) _).setCell (Nat.le_refl _) _).setCell (Nat.le_refl _) _).setCell (Nat.le_refl _) _)⟩
      case measure => simp [intOf]; omega
    · obtain rfl : k = xs.length := by omega
      have HO := Lib.hid (Part.done (R := cellR) (fun _ _ _ _ l q => cellR_mono l q) hpart)
      clear hpart
      go_wp2
      go_ret
      exact ⟨_, rfl, HO.out, hbel⟩
set_option maxRecDepth 100000 in
set_option maxHeartbeats 2000000 in
theorem laws_eqCellS (w : World) (h : Hp) (hs : Sub h w) (u v : Value) (xs : List DCell) (hu : DCellS h u xs) (hv : DCellS h v xs) :
    Calls Try.prog 26 #[u, v] w fun e w' => e = .returned (.bool true) ∧ Below w.heap.size w w' := by
  have HU := Lib.hid hu
  have HV := Lib.hid hv
  obtain ⟨a, c, rfl, hc1, hc2, -⟩ := hu
  obtain ⟨a', c', rfl, hc1', hc2', -⟩ := hv
  unfold maxLen at hc2 hc2'
  go_enter Try.func26, Try.ntmps26
  go_wp2
  go_loopw [5] (fun i wr => ∃ k : Nat, k ≤ xs.length ∧ i = .int .i64 k ∧ Below w.heap.size w wr) (fun i _ => xs.length - (intOf i).toNat)
  case atStart => exact ⟨0, by omega, rfl, Below.refl _ _⟩
  case round =>
    obtain ⟨k, hk, rfl, hbel⟩ := hrel
    by_cases hlt : k < xs.length
    · skip
      obtain ⟨b, off, rfl, hcell⟩ := HU.out.cell hlt
      obtain ⟨c0, c1, c2, c3, c4, c5, c6, c7, c8⟩ := hcell k hlt wr (hs.below hbel)
      obtain ⟨b', off', rfl, hcell'⟩ := HV.out.cell hlt
      obtain ⟨d0, d1, d2, d3, d4, d5, d6, d7, d8⟩ := hcell' k hlt wr (hs.below hbel)
      have HSr := Lib.hid (hs.below hbel)
      clear hcell hcell'
      go_wp2_with fail
      go_region_law (first | (refine step_guard rfl ?_; go_simp; go_at_call 78; refine (laws_eqCell _ xs[k]).mono ?_; rintro e w2 ⟨rfl, hb2⟩; dsimp only; replace hb2 := below_undrew hb2))
      all_goals
        go_wp2
        all_goals
          refine ⟨⟨k + 1, by omega, by go_num, below_chain hb2 hbel hbel.size⟩, ?_⟩
          simp [intOf]; omega
    · go_wp2
      go_ret
      exact ⟨rfl, hbel⟩
theorem cells_sCell : Try.prog.cellsOf 33 = 1 := by kernel_rfl
theorem rd_CellS {H : Type} {enc : TypeId × Value → H} {W : World} {n : Nat} {cs : List Value} {x : DataW H × List MemPlace} (h : Rd enc Try.prog W n 33 cs x) : ∃ v xs, cs = [v] ∧ DCellS (hp W) v xs :=
  rd_slice 9 cellR Try.underlying33 cells_Cell (by decide) (fun n cs' y hy => rd_Cell hy) h
end Go.Proofs.Ythpphiplbaehdaa
