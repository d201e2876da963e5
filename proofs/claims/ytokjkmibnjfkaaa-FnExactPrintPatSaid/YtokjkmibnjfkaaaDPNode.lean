/- Data PNode: how they are read; sizes, copies, comparisons. Printed by gendata.py. -/
import Derived.Test.YtokjkmibnjfkaaaDInt
import Derived.Test.YtokjkmibnjfkaaaSteps
namespace Go.Proofs.Ytokjkmibnjfkaaa
set_option linter.unusedVariables false
set_option linter.unusedSimpArgs false
open Go.RowKit Go.ChangeShapes Go.WideShapes
structure DPNode where
  kind : Int
  n : Int
  s : ByteArray
  kids : List Int
def pNodeOk (x : DPNode) : Prop := I64 x.kind ∧ I64 x.n ∧ x.s.size ≤ maxLen
def pNodeSmall (x : DPNode) : Prop := x.s.size ≤ 1048576 ∧ SmallS (fun (_ : Int) => True) x.kids
def pNodeRel (h : Hp) (x : DPNode) (v1 : Value) : Prop := SlOf 1 intR h v1 x.kids
def pNodeR (h : Hp) (r : List Value) (x : DPNode) : Prop := ∃ v1 : Value, r = [.int .i64 x.kind, .int .i64 x.n, .string x.s, v1] ∧ pNodeOk x ∧ pNodeRel h x v1
theorem pNodeRel_mono {h h' : Hp} {x : DPNode} {v1 : Value} (l : HLe h h') (q : pNodeRel h x v1) : pNodeRel h' x v1 :=
  SlOf.le q l (fun _ _ _ q => q)
theorem pNodeR_mono {h h' : Hp} {r : List Value} {x : DPNode} (l : HLe h h') (q : pNodeR h r x) : pNodeR h' r x :=
  let ⟨v1, a, b, c⟩ := q; ⟨v1, a, b, pNodeRel_mono l c⟩
abbrev DPNodeS (h : Hp) (v : Value) (xs : List DPNode) : Prop := SlOf 4 pNodeR h v xs
theorem DPNodeS.mono {h h' : Hp} {v : Value} {xs : List DPNode} (q : DPNodeS h v xs) (l : HLe h h') : DPNodeS h' v xs := SlOf.le q l fun _ _ _ q => pNodeR_mono l q
theorem DPNodeS.mem {h : Hp} {v : Value} {xs : List DPNode} (q : DPNodeS h v xs) : ∀ x ∈ xs, pNodeOk x := by
  obtain ⟨a, c, _, _, _, r⟩ := q
  intro x hx
  rcases r with rfl | ⟨b, off, _, hc⟩
  · cases hx
  · obtain ⟨i, hi, rfl⟩ := List.getElem_of_mem hx
    obtain ⟨_, _, _, hr⟩ := hc i hi
    exact let ⟨_, _, b, _⟩ := hr; b
theorem DPNodeS.cell {h : Hp} {a : Option Addr} {n c : Nat} {xs : List DPNode} (q : DPNodeS h (.slice a n c) xs) {i : Nat} (hi : i < xs.length) :
    ∃ b off, a = some ⟨b, off, none⟩ ∧ ∀ j (hj : j < xs.length), ∃ v1 : Value, pNodeRel h xs[j] v1 ∧ ∀ w : World, Sub h w → w.cell? ⟨b, off + j * 4, none⟩ = some (.int .i64 xs[j].kind) ∧ w.cell? ⟨b, off + j * 4 + 1, none⟩ = some (.int .i64 xs[j].n) ∧ w.cell? ⟨b, off + j * 4 + 2, none⟩ = some (.string xs[j].s) ∧ w.cell? ⟨b, off + j * 4 + 3, none⟩ = some (v1) := by
  obtain ⟨a', c', e, _, _, r⟩ := q
  injection e with e1 e2 e3
  subst e1
  rcases r with rfl | ⟨b, off, ea, hc⟩
  · simp at hi
  · refine ⟨b, off, ea, fun j hj => ?_⟩
    obtain ⟨r, hr1, hr2, hr3⟩ := hc j hj
    obtain ⟨v1, e, _, hr⟩ := hr3
    rw [e] at hr2
    refine ⟨v1, hr, fun w hw => ?_⟩
    exact ⟨hr2.cell hw (i := 0) (by simp), hr2.cell hw (i := 1) (by simp), hr2.cell hw (i := 2) (by simp), hr2.cell hw (i := 3) (by simp)⟩
theorem cells_PNode : Try.prog.cellsOf 108 = 4 := by kernel_rfl
theorem cells_sInt_of_PNode : Try.prog.cellsOf 80 = 1 := by kernel_rfl
theorem tlen_PNode {cs : List Value} (h : cs.length = 4) : ∃ c0 c1 c2 c3 : Value, cs = [c0, c1, c2, c3] := by
  match cs, h with
  | [c0, c1, c2, c3], _ => exact ⟨c0, c1, c2, c3, rfl⟩
theorem rd_PNode {H : Type} {enc : TypeId × Value → H} {W : World} {n : Nat} {cs : List Value} {x : DataW H × List MemPlace} (h : Rd enc Try.prog W n 108 cs x) : ∃ t : DPNode, pNodeR (hp W) cs t := by
  obtain ⟨hl, m, hf⟩ := rd_fields Try.underlying108 h
  rw [cells_PNode] at hl
  obtain ⟨c0, c1, c2, c3, rfl⟩ := tlen_PNode hl
  simp only [List.forall_mem_cons, cells_tint, cells_tstring, cells_sInt_of_PNode] at hf
  obtain ⟨⟨_, h0⟩, ⟨_, h1⟩, ⟨_, h2⟩, ⟨_, h3⟩, _⟩ := hf
  obtain ⟨k0, e0, -, z0⟩ := DataW.trod_int Try.underlying3 h0
  simp at e0
  subst e0
  obtain ⟨k1, e1, -, z1⟩ := DataW.trod_int Try.underlying3 h1
  simp at e1
  subst e1
  obtain ⟨k2, e2, -, z2⟩ := DataW.trod_string Try.underlying9 h2
  simp at e2
  subst e2
  obtain ⟨v1, k3, e3, z3⟩ := rd_ints h3
  simp at e3
  subst e3
  exact ⟨⟨k0, k1, k2, k3⟩, _, rfl, ⟨i64_of z0, i64_of z1, z2⟩, z3⟩
theorem info_PNode : (Try.prog.info? 109).map (fun i => (i.zero, i.size, i.bytes)) = some (some (.agg #[.int .i64 0, .int .i64 0, .string ByteArray.empty, .slice none 0 0]), 4, 56) := by kernel_rfl
set_option maxRecDepth 100000 in
set_option maxHeartbeats 2000000 in
theorem laws_szPNode (w : World) (x : DPNode) (hx : pNodeOk x) (h : Hp) (s0 : Sub h w) (v1 : Value) (q : pNodeRel h x v1) (left : Int) (h0 : 0 ≤ left) (h1 : left ≤ 1048576) :
    Calls Try.prog 64 #[.agg #[.int .i64 x.kind, .int .i64 x.n, .string x.s, v1], .int .i64 left] w fun e w' => SzS left (pNodeSmall x) e ∧ Below w.heap.size w w' := by
  unfold pNodeOk maxLen at hx
  unfold pNodeSmall
  go_enter Try.func64, Try.ntmps64
  by_cases b0 : left < (x.s.size : Int)
  · go_wp2
    go_ret
    exact ⟨⟨_, rfl, by omega, by omega, by omega⟩, (by repeat (first | with_reducible exact Below.refl _ _ | with_reducible assumption | with_reducible refine Below.setCell ?_ ?_ _ | with_reducible refine Below.alloc ?_ ?_ _ | with_reducible refine Below.drew ?_ | (with_reducible apply below_chain; with_reducible assumption) | exact Nat.le_refl _ | omega | (simp <;> omega)))⟩
  ·
    go_wp2_with fail
    refine (laws_szIntS _ h (by repeat (first | assumption | refine Sub.alloc ?_ _ | refine Sub.drew ?_)) v1 x.kids q (left - (x.s.size : Int)) (by omega) (by omega)).mono ?_
    rintro e w2 ⟨⟨r2, rfl, u2, y2, z2⟩, hb2⟩
    obtain ⟨kc2, kf2⟩ := bcell hb2; have kz2 := hb2.size; (try simp at kz2); (first | (refine (fun (kw2_0 : w.heap.size  < w2.heap.size) => ?_) ?_; rotate_left; omega) | skip); (first | (refine (fun (kw2_1 : w.heap.size + 1 < w2.heap.size) => ?_) ?_; rotate_left; omega) | skip); (first | (refine (fun (kw2_2 : w.heap.size + 1 + 1 < w2.heap.size) => ?_) ?_; rotate_left; omega) | skip)
    have s2 : Sub h w2 := Sub.below (by repeat (first | assumption | refine Sub.alloc ?_ _ | refine Sub.drew ?_)) hb2
    by_cases m2 : r2 < 0
    · go_wp2_with fail
      go_ret
      exact ⟨⟨_, rfl, by omega, by omega, by omega⟩, (by repeat (first | with_reducible exact Below.refl _ _ | with_reducible assumption | with_reducible refine Below.setCell ?_ ?_ _ | with_reducible refine Below.alloc ?_ ?_ _ | with_reducible refine Below.drew ?_ | (with_reducible apply below_chain; with_reducible assumption) | exact Nat.le_refl _ | omega | (simp <;> omega)))⟩
    ·
      go_wp2_with fail
      go_ret
      exact ⟨⟨_, rfl, by omega, by omega, fun _ => ⟨by omega, z2 (by omega)⟩⟩, (by repeat (first | with_reducible exact Below.refl _ _ | with_reducible assumption | with_reducible refine Below.setCell ?_ ?_ _ | with_reducible refine Below.alloc ?_ ?_ _ | with_reducible refine Below.drew ?_ | (with_reducible apply below_chain; with_reducible assumption) | exact Nat.le_refl _ | omega | (simp <;> omega)))⟩
def pNodePost (h : Hp) (w : World) (x : DPNode) (e : Ending) (w' : World) : Prop := ∃ v1' : Value, e = .returned (.agg #[.int .i64 x.kind, .int .i64 x.n, .string x.s, v1']) ∧ pNodeRel (ext h w.heap.size w') x v1' ∧ Below w.heap.size w w'
set_option maxRecDepth 100000 in
set_option maxHeartbeats 2000000 in
theorem laws_toPNode (w : World) (x : DPNode) (h : Hp) (s0 : Sub h w) (v1 : Value) (q : pNodeRel h x v1) (hsm : pNodeSmall x) :
    Calls Try.prog 67 #[.agg #[.int .i64 x.kind, .int .i64 x.n, .string x.s, v1]] w fun e w' => pNodePost h w x e w' := by
  unfold pNodeSmall at hsm
  have n1 := s0.none (b := w.heap.size) (by omega)
  have n2 := s0.none (b := w.heap.size + 1) (by omega)
  have n3 := s0.none (b := w.heap.size + 1 + 1) (by omega)
  go_enter Try.func67, Try.ntmps67
  go_wp2_with fail
  refine (laws_toIntS _ h (by repeat (first | assumption | refine Sub.alloc ?_ _ | refine Sub.drew ?_)) v1 x.kids q hsm.2).mono ?_
  rintro e w1 ⟨v1', rfl, p1, hb1⟩
  obtain ⟨a0, c0, rfl, -⟩ := id p1
  have P1 := Lib.hid p1
  clear p1
  obtain ⟨kc1, kf1⟩ := bcell hb1; have kz1 := hb1.size; (try simp at kz1); (first | (refine (fun (kw1_0 : w.heap.size  < w1.heap.size) => ?_) ?_; rotate_left; omega) | skip); (first | (refine (fun (kw1_1 : w.heap.size + 1 < w1.heap.size) => ?_) ?_; rotate_left; omega) | skip); (first | (refine (fun (kw1_2 : w.heap.size + 1 + 1 < w1.heap.size) => ?_) ?_; rotate_left; omega) | skip)
  have s1 : Sub h w1 := Sub.below (by repeat (first | assumption | refine Sub.alloc ?_ _ | refine Sub.drew ?_)) hb1
  have L1 : Live h w.heap.size (ext h _ w1) w1 := Live.call (h1 := h) (by repeat (first | with_reducible assumption | exact Live.start s0 | refine Live.alloc ?_ _ | refine Live.setCell ?_ (by first | with_reducible assumption | exact (ext_old (by simp <;> omega)).trans (by first | exact n1 | exact n2 | exact n3) | exact n1 | exact n2 | exact n3) _ | (refine Live.below ?_ (by with_reducible assumption)))) hb1 (by simp <;> omega)
  go_wp2_with fail
  refine bodyPost_ret (v := .agg #[.int .i64 x.kind, .int .i64 x.n, .string x.s, .slice a0 x.kids.length c0]) (by simp [results, Try.results67, go_sem, kc1]) rfl ⟨_, rfl, ?_, ?_⟩
  · exact (SlOf.le P1.out (Live.out (B := w.heap.size) (by repeat (first | with_reducible assumption | exact Live.start s0 | refine Live.alloc ?_ _ | refine Live.setCell ?_ (by first | with_reducible assumption | exact (ext_old (by simp <;> omega)).trans (by first | exact n1 | exact n2 | exact n3) | exact n1 | exact n2 | exact n3) _ | (refine Live.below ?_ (by with_reducible assumption))))) (fun _ _ _ q => q))
  · exact (by repeat (first | with_reducible exact Below.refl _ _ | with_reducible assumption | with_reducible refine Below.setCell ?_ ?_ _ | with_reducible refine Below.alloc ?_ ?_ _ | with_reducible refine Below.drew ?_ | (with_reducible apply below_chain; with_reducible assumption) | exact Nat.le_refl _ | omega | (simp <;> omega)))
set_option maxRecDepth 100000 in
set_option maxHeartbeats 2000000 in
theorem laws_eqPNode (w : World) (x : DPNode) (h : Hp) (s0 : Sub h w) (u1 : Value) (v1 : Value) (p : pNodeRel h x u1) (q : pNodeRel h x v1) :
    Calls Try.prog 73 #[.agg #[.int .i64 x.kind, .int .i64 x.n, .string x.s, u1], .agg #[.int .i64 x.kind, .int .i64 x.n, .string x.s, v1]] w fun e w' => e = .returned (.bool true) ∧ Below w.heap.size w w' := by
  go_enter Try.func73, Try.ntmps73
  go_wp2_with fail
  refine (laws_eqIntS _ h (by repeat (first | assumption | refine Sub.alloc ?_ _ | refine Sub.drew ?_)) u1 v1 x.kids p q).mono ?_
  rintro e w1 ⟨rfl, hb1⟩
  obtain ⟨kc1, kf1⟩ := bcell hb1; have kz1 := hb1.size; (try simp at kz1); (first | (refine (fun (kw1_0 : w.heap.size  < w1.heap.size) => ?_) ?_; rotate_left; omega) | skip); (first | (refine (fun (kw1_1 : w.heap.size + 1 < w1.heap.size) => ?_) ?_; rotate_left; omega) | skip); (first | (refine (fun (kw1_2 : w.heap.size + 1 + 1 < w1.heap.size) => ?_) ?_; rotate_left; omega) | skip)
  have s1 : Sub h w1 := Sub.below (by repeat (first | assumption | refine Sub.alloc ?_ _ | refine Sub.drew ?_)) hb1
  go_wp2_with fail
  go_ret
  exact ⟨rfl, (by repeat (first | with_reducible exact Below.refl _ _ | with_reducible assumption | with_reducible refine Below.setCell ?_ ?_ _ | with_reducible refine Below.alloc ?_ ?_ _ | with_reducible refine Below.drew ?_ | (with_reducible apply below_chain; with_reducible assumption) | exact Nat.le_refl _ | omega | (simp <;> omega)))⟩
set_option maxRecDepth 100000 in
set_option maxHeartbeats 2000000 in
theorem laws_szPNodeS (w : World) (h : Hp) (hs : Sub h w) (v : Value) (xs : List DPNode) (hv : DPNodeS h v xs) (left : Int) (h0 : 0 ≤ left) (h1 : left ≤ 1048576) :
    Calls Try.prog 24 #[v, .int .i64 left] w fun e w' => SzS left (SmallS pNodeSmall xs) e ∧ Below w.heap.size w w' := by
  have hm := Lib.hid hv.mem
  have HV := Lib.hid hv
  obtain ⟨a, c, rfl, hc1, hc2, -⟩ := hv
  unfold maxLen at hc2
  by_cases hl : left < xs.length
  · go_enter Try.func24, Try.ntmps24
    go_wp2
    go_ret
    exact ⟨⟨_, rfl, by omega, by omega, by omega⟩, Below.refl _ _⟩
  · go_enter Try.func24, Try.ntmps24
    go_wp2
    go_loopw [1, 5] (fun lv i wr => ∃ (k : Nat) (r : Int), i = .int .i64 k ∧ lv = .int .i64 r ∧ k ≤ xs.length ∧ 0 ≤ r ∧ r ≤ left ∧ (∀ j (h : j < xs.length), j < k → pNodeSmall xs[j]) ∧ Below w.heap.size w wr) (fun _ i _ => xs.length - (intOf i).toNat)
    case atStart => exact ⟨0, _, rfl, rfl, by omega, by omega, by omega, fun _ _ hj => absurd hj (by omega), Below.refl _ _⟩
    case round =>
      obtain ⟨k, r, rfl, rfl, hk, hr0, hr1, hsm, hbel⟩ := hrel
      have HSm := Lib.hid hsm
      clear hsm
      by_cases hlt : k < xs.length
      · skip
        obtain ⟨b, off, rfl, hcell⟩ := HV.out.cell hlt
        obtain ⟨v1, hrel, hcs⟩ := hcell k hlt
        obtain ⟨c0, c1, c2, c3⟩ := hcs wr (hs.below hbel)
        have hok := Lib.hid (hm.out _ (List.getElem_mem hlt))
        have hsr := hs.below hbel
        clear hcell
        go_wp2_with fail
        refine (laws_szPNode _ xs[k] hok.out h hsr v1 hrel r hr0 (by omega)).mono ?_
        rintro e w1 ⟨⟨r1, rfl, u1, y1, z1⟩, hb1⟩
        have HZ := Lib.hid z1
        clear z1
        by_cases m1 : r1 < 0
        · go_wp2_with fail
          go_ret
          exact ⟨⟨_, rfl, by omega, by omega, by omega⟩, below_chain hb1 hbel hbel.size⟩
        · go_wp2_with fail
          go_roundw
          case rel => exact ⟨k + 1, r1, by go_num, rfl, by omega, by omega, by omega, fun j hj hjk => by
            rcases Nat.lt_or_ge j k with hj' | hj'
            · exact HSm.out j hj hj'
            · obtain rfl : j = k := by omega
              exact HZ.out (by omega), below_chain hb1 hbel hbel.size⟩
          case measure => simp [intOf]; omega
      · go_wp2
        go_ret
        exact ⟨⟨_, rfl, by omega, by omega, fun _ => ⟨by omega, fun j hj => HSm.out j hj (by omega)⟩⟩, hbel⟩
def pNodesPost (h : Hp) (w : World) (xs : List DPNode) (e : Ending) (w' : World) : Prop := ∃ v', e = .returned v' ∧ DPNodeS (ext h w.heap.size w') v' xs ∧ Below w.heap.size w w'
set_option maxRecDepth 100000 in
set_option maxHeartbeats 2000000 in
theorem laws_toPNodeS (w : World) (h : Hp) (hs : Sub h w) (v : Value) (xs : List DPNode) (hv : DPNodeS h v xs) (hsm : SmallS pNodeSmall xs) :
    Calls Try.prog 27 #[v] w fun e w' => pNodesPost h w xs e w' := by
  have hm := Lib.hid hv.mem
  have HV := Lib.hid hv
  have HSm := Lib.hid hsm.2
  have hl := hsm.1
  clear hsm
  obtain ⟨a, c, rfl, hc1, hc2, -⟩ := hv
  unfold maxLen at hc2
  have hlm : xs.length ≤ maxLen := by unfold maxLen; omega
  go_enter Try.func27, Try.ntmps27
  go_wp2_with (first | (at_make; refine make_n Try.underlying27 info_PNode w rfl _ _ rfl w.heap.size _ _ xs.length rfl rfl rfl rfl (by omega) hlm (Nat.le_refl _) ?_))
  intro w1 hown hb1
  have hz1 := hb1.size
  have hg : w.heap.size < w1.heap.size := (own_parts hown).2.2.2.2.2
  have HP1 := Lib.hid (Part.start (R := pNodeR) (h := h) (xs := xs) rfl (by decide) hown ((Live.start hs).below hb1) (hs.none (Nat.le_refl _)) (Nat.le_refl _))
  clear hown
  go_wp2
  go_loopw [4] (fun i wr => ∃ (k : Nat) (hc : Hp), k ≤ xs.length ∧ i = .int .i64 k ∧ Part 4 pNodeR 109 h w.heap.size w.heap.size xs wr k hc ∧ Below w.heap.size w wr) (fun i _ => xs.length - (intOf i).toNat)
  case atStart => exact ⟨0, h, by omega, rfl, HP1.out, hb1⟩
  case round =>
    obtain ⟨k, hc, hk, rfl, hpart, hbel⟩ := hrel
    by_cases hlt : k < xs.length
    · obtain ⟨rows, p1, p2, p3, p4, p5, p6, p7⟩ := hpart
      have hsub : Sub h wr := p5.sub.le p5.le
      have hgw : w.heap.size < wr.heap.size := (own_parts p3).2.2.2.2.2
      obtain ⟨b, off, rfl, hcell⟩ := HV.out.cell hlt
      obtain ⟨v1, hrel, hcs⟩ := hcell k hlt
      obtain ⟨c0, c1, c2, c3⟩ := hcs wr (hsub)
      have HP3 := Lib.hid p3
      have HP4 := Lib.hid p4
      have HP5 := Lib.hid p5
      have HP6 := Lib.hid p6
      have hok := Lib.hid (hm.out _ (List.getElem_mem hlt))
      clear hcell p3 p4 p5 p6
      go_wp2_with fail
      refine (laws_toPNode _ xs[k] h hsub v1 hrel (HSm.out k hlt)).mono ?_
      rintro e w2 ⟨v1', rfl, hq2, hb2⟩
      obtain ⟨a0, d0, rfl, -⟩ := id hq2
      have HW2 := Lib.hid (own_kept HP3.out hb2 (Nat.le_refl _))
      have hz2 := hb2.size

      obtain ⟨⟨o0, g0⟩, f0⟩ := own_cells HW2.out (k * 4) (by omega)
      obtain ⟨⟨o1, g1⟩, f1⟩ := own_cells HW2.out (k * 4 + 1) (by omega)
      obtain ⟨⟨o2, g2⟩, f2⟩ := own_cells HW2.out (k * 4 + 2) (by omega)
      obtain ⟨⟨o3, g3⟩, f3⟩ := own_cells HW2.out (k * 4 + 3) (by omega)
      have HQ := Lib.hid hq2
      clear hq2
      have HLE := Lib.hid (ext_le (w' := w2) HP5.out.sub (Nat.le_refl _))
      have HL := Lib.hid (HP5.out.call hb2 (by omega))
      have HG := Lib.hid (show ext hc wr.heap.size w2 w.heap.size = none from (ext_old hgw).trans HP6.out)
      have HS := Lib.hid (own_set (own_set (own_set (own_set HW2.out (k * 4) (.int .i64 xs[k].kind)) (k * 4 + 1) (.int .i64 xs[k].n)) (k * 4 + 2) (.string xs[k].s)) (k * 4 + 3) (.slice a0 xs[k].kids.length d0))
      go_wp2_with fail
      go_roundw
      case rel => exact ⟨k + 1, _, by omega, by go_num, Part.lay [.int .i64 xs[k].kind, .int .i64 xs[k].n, .string xs[k].s, .slice a0 xs[k].kids.length d0] p1 p2 rfl HS.out HP4.out HLE.out (fun _ _ => pNodeR_mono HLE.out) hlt ⟨_, rfl, hok.out, pNodeRel_mono (ext_mono HP5.out.le) HQ.out⟩ ((((HL.out.setCell HG.out _).setCell HG.out _).setCell HG.out _).setCell HG.out _) HG.out p7, (((((below_chain hb2 hbel hbel.size).setCell (Nat.le_refl _) _).setCell (Nat.le_refl _) _).setCell (Nat.le_refl _) _).setCell (Nat.le_refl _) _)⟩
      case measure => simp [intOf]; omega
    · obtain rfl : k = xs.length := by omega
      have HO := Lib.hid (Part.done (R := pNodeR) (fun _ _ _ _ l q => pNodeR_mono l q) hpart)
      clear hpart
      go_wp2
      go_ret
      exact ⟨_, rfl, HO.out, hbel⟩
set_option maxRecDepth 100000 in
set_option maxHeartbeats 2000000 in
theorem laws_eqPNodeS (w : World) (h : Hp) (hs : Sub h w) (u v : Value) (xs : List DPNode) (hu : DPNodeS h u xs) (hv : DPNodeS h v xs) :
    Calls Try.prog 31 #[u, v] w fun e w' => e = .returned (.bool true) ∧ Below w.heap.size w w' := by
  have HU := Lib.hid hu
  have HV := Lib.hid hv
  obtain ⟨a, c, rfl, hc1, hc2, -⟩ := hu
  obtain ⟨a', c', rfl, hc1', hc2', -⟩ := hv
  unfold maxLen at hc2 hc2'
  go_enter Try.func31, Try.ntmps31
  go_wp2
  go_loopw [5] (fun i wr => ∃ k : Nat, k ≤ xs.length ∧ i = .int .i64 k ∧ Below w.heap.size w wr) (fun i _ => xs.length - (intOf i).toNat)
  case atStart => exact ⟨0, by omega, rfl, Below.refl _ _⟩
  case round =>
    obtain ⟨k, hk, rfl, hbel⟩ := hrel
    by_cases hlt : k < xs.length
    · skip
      obtain ⟨b, off, rfl, hcell⟩ := HU.out.cell hlt
      obtain ⟨v1, hrel, hcs⟩ := hcell k hlt
      obtain ⟨c0, c1, c2, c3⟩ := hcs wr (hs.below hbel)
      obtain ⟨b', off', rfl, hcell'⟩ := HV.out.cell hlt
      obtain ⟨v1', hrel', hcs'⟩ := hcell' k hlt
      obtain ⟨d0, d1, d2, d3⟩ := hcs' wr (hs.below hbel)
      have HSr := Lib.hid (hs.below hbel)
      clear hcell hcell'
      go_wp2_with fail
      go_region_law (first | (refine step_guard rfl ?_; go_simp; go_at_call 73; refine (laws_eqPNode _ xs[k] h HSr.out.drew v1 v1' hrel hrel').mono ?_; rintro e w2 ⟨rfl, hb2⟩; dsimp only; replace hb2 := below_undrew hb2))
      all_goals
        go_wp2
        all_goals
          refine ⟨⟨k + 1, by omega, by go_num, below_chain hb2 hbel hbel.size⟩, ?_⟩
          simp [intOf]; omega
    · go_wp2
      go_ret
      exact ⟨rfl, hbel⟩
theorem cells_sPNode : Try.prog.cellsOf 22 = 1 := by kernel_rfl
theorem rd_PNodeS {H : Type} {enc : TypeId × Value → H} {W : World} {n : Nat} {cs : List Value} {x : DataW H × List MemPlace} (h : Rd enc Try.prog W n 22 cs x) : ∃ v xs, cs = [v] ∧ DPNodeS (hp W) v xs :=
  rd_slice 4 pNodeR Try.underlying22 cells_PNode (by decide) (fun n cs' y hy => rd_PNode hy) h
end Go.Proofs.Ytokjkmibnjfkaaa
