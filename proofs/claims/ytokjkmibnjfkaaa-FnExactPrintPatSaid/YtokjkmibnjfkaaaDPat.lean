/- Data Pat: how they are read; sizes, copies, comparisons. Printed by gendata.py. -/
import Derived.Test.YtokjkmibnjfkaaaDPNode
namespace Go.Proofs.Ytokjkmibnjfkaaa
set_option linter.unusedVariables false
set_option linter.unusedSimpArgs false
open Go.RowKit Go.ChangeShapes Go.WideShapes
def patOk (x : List DPNode) : Prop := True
def patSmall (x : List DPNode) : Prop := SmallS pNodeSmall x
def patRel (h : Hp) (x : List DPNode) (v1 : Value) : Prop := SlOf 4 pNodeR h v1 x
def patR (h : Hp) (r : List Value) (x : List DPNode) : Prop := ∃ v1 : Value, r = [v1] ∧ patOk x ∧ patRel h x v1
theorem patRel_mono {h h' : Hp} {x : List DPNode} {v1 : Value} (l : HLe h h') (q : patRel h x v1) : patRel h' x v1 :=
  SlOf.le q l (fun _ _ _ q => pNodeR_mono l q)
theorem patR_mono {h h' : Hp} {r : List Value} {x : List DPNode} (l : HLe h h') (q : patR h r x) : patR h' r x :=
  let ⟨v1, a, b, c⟩ := q; ⟨v1, a, b, patRel_mono l c⟩
abbrev DPatS (h : Hp) (v : Value) (xs : List (List DPNode)) : Prop := SlOf 1 patR h v xs
theorem DPatS.mono {h h' : Hp} {v : Value} {xs : List (List DPNode)} (q : DPatS h v xs) (l : HLe h h') : DPatS h' v xs := SlOf.le q l fun _ _ _ q => patR_mono l q
theorem DPatS.mem {h : Hp} {v : Value} {xs : List (List DPNode)} (q : DPatS h v xs) : ∀ x ∈ xs, patOk x := by
  obtain ⟨a, c, _, _, _, r⟩ := q
  intro x hx
  rcases r with rfl | ⟨b, off, _, hc⟩
  · cases hx
  · obtain ⟨i, hi, rfl⟩ := List.getElem_of_mem hx
    obtain ⟨_, _, _, hr⟩ := hc i hi
    exact let ⟨_, _, b, _⟩ := hr; b
theorem DPatS.cell {h : Hp} {a : Option Addr} {n c : Nat} {xs : List (List DPNode)} (q : DPatS h (.slice a n c) xs) {i : Nat} (hi : i < xs.length) :
    ∃ b off, a = some ⟨b, off, none⟩ ∧ ∀ j (hj : j < xs.length), ∃ v1 : Value, patRel h xs[j] v1 ∧ ∀ w : World, Sub h w → w.cell? ⟨b, off + j, none⟩ = some (v1) := by
  obtain ⟨a', c', e, _, _, r⟩ := q
  injection e with e1 e2 e3
  subst e1
  rcases r with rfl | ⟨b, off, ea, hc⟩
  · simp at hi
  · refine ⟨b, off, ea, fun j hj => ?_⟩
    obtain ⟨r, hr1, hr2, hr3⟩ := hc j hj
    obtain ⟨v1, e, _, hr⟩ := hr3
    rw [e] at hr2
    refine ⟨v1, hr, fun w hw => ?_⟩
    rw [Nat.mul_one] at hr2
    exact hr2.cell hw (i := 0) (by simp)
theorem cells_Pat : Try.prog.cellsOf 24 = 1 := by kernel_rfl
theorem cells_sPNode_of_Pat : Try.prog.cellsOf 22 = 1 := by kernel_rfl
theorem tlen_Pat {cs : List Value} (h : cs.length = 1) : ∃ c0 : Value, cs = [c0] := by
  match cs, h with
  | [c0], _ => exact ⟨c0, rfl⟩
theorem rd_Pat {H : Type} {enc : TypeId × Value → H} {W : World} {n : Nat} {cs : List Value} {x : DataW H × List MemPlace} (h : Rd enc Try.prog W n 24 cs x) : ∃ t : List DPNode, patR (hp W) cs t := by
  obtain ⟨hl, m, hf⟩ := rd_fields Try.underlying24 h
  rw [cells_Pat] at hl
  obtain ⟨c0, rfl⟩ := tlen_Pat hl
  simp only [List.forall_mem_cons, cells_sPNode_of_Pat] at hf
  obtain ⟨⟨_, h0⟩, _⟩ := hf
  obtain ⟨v1, k0, e0, z0⟩ := rd_PNodeS h0
  simp at e0
  subst e0
  exact ⟨k0, _, rfl, trivial, z0⟩
theorem info_Pat : (Try.prog.info? 29).map (fun i => (i.zero, i.size, i.bytes)) = some (some (.agg #[.slice none 0 0]), 1, 24) := by kernel_rfl
set_option maxRecDepth 100000 in
set_option maxHeartbeats 2000000 in
theorem laws_szPat (w : World) (x : List DPNode) (hx : patOk x) (h : Hp) (s0 : Sub h w) (v1 : Value) (q : patRel h x v1) (left : Int) (h0 : 0 ≤ left) (h1 : left ≤ 1048576) :
    Calls Try.prog 7 #[.agg #[v1], .int .i64 left] w fun e w' => SzS left (patSmall x) e ∧ Below w.heap.size w w' := by
  unfold patOk at hx
  try unfold maxLen at hx
  unfold patSmall
  go_enter Try.func7, Try.ntmps7
  go_wp2_with fail
  refine (laws_szPNodeS _ h (by repeat (first | assumption | refine Sub.alloc ?_ _ | refine Sub.drew ?_)) v1 x q left (by omega) (by omega)).mono ?_
  rintro e w1 ⟨⟨r1, rfl, u1, y1, z1⟩, hb1⟩
  obtain ⟨kc1, kf1⟩ := bcell hb1; have kz1 := hb1.size; (try simp at kz1); (first | (refine (fun (kw1_0 : w.heap.size  < w1.heap.size) => ?_) ?_; rotate_left; omega) | skip); (first | (refine (fun (kw1_1 : w.heap.size + 1 < w1.heap.size) => ?_) ?_; rotate_left; omega) | skip); (first | (refine (fun (kw1_2 : w.heap.size + 1 + 1 < w1.heap.size) => ?_) ?_; rotate_left; omega) | skip)
  have s1 : Sub h w1 := Sub.below (by repeat (first | assumption | refine Sub.alloc ?_ _ | refine Sub.drew ?_)) hb1
  by_cases m1 : r1 < 0
  · go_wp2_with fail
    go_ret
    exact ⟨⟨_, rfl, by omega, by omega, by omega⟩, (by repeat (first | with_reducible exact Below.refl _ _ | with_reducible assumption | with_reducible refine Below.setCell ?_ ?_ _ | with_reducible refine Below.alloc ?_ ?_ _ | with_reducible refine Below.drew ?_ | (with_reducible apply below_chain; with_reducible assumption) | exact Nat.le_refl _ | omega | (simp <;> omega)))⟩
  ·
    go_wp2_with fail
    go_ret
    exact ⟨⟨_, rfl, by omega, by omega, fun _ => z1 (by omega)⟩, (by repeat (first | with_reducible exact Below.refl _ _ | with_reducible assumption | with_reducible refine Below.setCell ?_ ?_ _ | with_reducible refine Below.alloc ?_ ?_ _ | with_reducible refine Below.drew ?_ | (with_reducible apply below_chain; with_reducible assumption) | exact Nat.le_refl _ | omega | (simp <;> omega)))⟩
def patPost (h : Hp) (w : World) (x : List DPNode) (e : Ending) (w' : World) : Prop := ∃ v1' : Value, e = .returned (.agg #[v1']) ∧ patRel (ext h w.heap.size w') x v1' ∧ Below w.heap.size w w'
set_option maxRecDepth 100000 in
set_option maxHeartbeats 2000000 in
theorem laws_toPat (w : World) (x : List DPNode) (h : Hp) (s0 : Sub h w) (v1 : Value) (q : patRel h x v1) (hsm : patSmall x) :
    Calls Try.prog 9 #[.agg #[v1]] w fun e w' => patPost h w x e w' := by
  unfold patSmall at hsm
  have n1 := s0.none (b := w.heap.size) (by omega)
  have n2 := s0.none (b := w.heap.size + 1) (by omega)
  have n3 := s0.none (b := w.heap.size + 1 + 1) (by omega)
  go_enter Try.func9, Try.ntmps9
  go_wp2_with fail
  refine (laws_toPNodeS _ h (by repeat (first | assumption | refine Sub.alloc ?_ _ | refine Sub.drew ?_)) v1 x q hsm).mono ?_
  rintro e w1 ⟨v1', rfl, p1, hb1⟩
  obtain ⟨a0, c0, rfl, -⟩ := id p1
  have P1 := Lib.hid p1
  clear p1
  obtain ⟨kc1, kf1⟩ := bcell hb1; have kz1 := hb1.size; (try simp at kz1); (first | (refine (fun (kw1_0 : w.heap.size  < w1.heap.size) => ?_) ?_; rotate_left; omega) | skip); (first | (refine (fun (kw1_1 : w.heap.size + 1 < w1.heap.size) => ?_) ?_; rotate_left; omega) | skip); (first | (refine (fun (kw1_2 : w.heap.size + 1 + 1 < w1.heap.size) => ?_) ?_; rotate_left; omega) | skip)
  have s1 : Sub h w1 := Sub.below (by repeat (first | assumption | refine Sub.alloc ?_ _ | refine Sub.drew ?_)) hb1
  have L1 : Live h w.heap.size (ext h _ w1) w1 := Live.call (h1 := h) (by repeat (first | with_reducible assumption | exact Live.start s0 | refine Live.alloc ?_ _ | refine Live.setCell ?_ (by first | with_reducible assumption | exact (ext_old (by simp <;> omega)).trans (by first | exact n1 | exact n2 | exact n3) | exact n1 | exact n2 | exact n3) _ | (refine Live.below ?_ (by with_reducible assumption)))) hb1 (by simp <;> omega)
  go_wp2_with fail
  refine bodyPost_ret (v := .agg #[.slice a0 x.length c0]) (by simp [results, Try.results9, go_sem, kc1]) rfl ⟨_, rfl, ?_, ?_⟩
  · exact (SlOf.le P1.out (Live.out (B := w.heap.size) (by repeat (first | with_reducible assumption | exact Live.start s0 | refine Live.alloc ?_ _ | refine Live.setCell ?_ (by first | with_reducible assumption | exact (ext_old (by simp <;> omega)).trans (by first | exact n1 | exact n2 | exact n3) | exact n1 | exact n2 | exact n3) _ | (refine Live.below ?_ (by with_reducible assumption))))) (fun _ _ _ q => pNodeR_mono (Live.out (B := w.heap.size) (by repeat (first | with_reducible assumption | exact Live.start s0 | refine Live.alloc ?_ _ | refine Live.setCell ?_ (by first | with_reducible assumption | exact (ext_old (by simp <;> omega)).trans (by first | exact n1 | exact n2 | exact n3) | exact n1 | exact n2 | exact n3) _ | (refine Live.below ?_ (by with_reducible assumption))))) q))
  · exact (by repeat (first | with_reducible exact Below.refl _ _ | with_reducible assumption | with_reducible refine Below.setCell ?_ ?_ _ | with_reducible refine Below.alloc ?_ ?_ _ | with_reducible refine Below.drew ?_ | (with_reducible apply below_chain; with_reducible assumption) | exact Nat.le_refl _ | omega | (simp <;> omega)))
set_option maxRecDepth 100000 in
set_option maxHeartbeats 2000000 in
theorem laws_eqPat (w : World) (x : List DPNode) (h : Hp) (s0 : Sub h w) (u1 : Value) (v1 : Value) (p : patRel h x u1) (q : patRel h x v1) :
    Calls Try.prog 11 #[.agg #[u1], .agg #[v1]] w fun e w' => e = .returned (.bool true) ∧ Below w.heap.size w w' := by
  go_enter Try.func11, Try.ntmps11
  go_wp2_with fail
  refine (laws_eqPNodeS _ h (by repeat (first | assumption | refine Sub.alloc ?_ _ | refine Sub.drew ?_)) u1 v1 x p q).mono ?_
  rintro e w1 ⟨rfl, hb1⟩
  obtain ⟨kc1, kf1⟩ := bcell hb1; have kz1 := hb1.size; (try simp at kz1); (first | (refine (fun (kw1_0 : w.heap.size  < w1.heap.size) => ?_) ?_; rotate_left; omega) | skip); (first | (refine (fun (kw1_1 : w.heap.size + 1 < w1.heap.size) => ?_) ?_; rotate_left; omega) | skip); (first | (refine (fun (kw1_2 : w.heap.size + 1 + 1 < w1.heap.size) => ?_) ?_; rotate_left; omega) | skip)
  have s1 : Sub h w1 := Sub.below (by repeat (first | assumption | refine Sub.alloc ?_ _ | refine Sub.drew ?_)) hb1
  go_wp2_with fail
  go_ret
  exact ⟨rfl, (by repeat (first | with_reducible exact Below.refl _ _ | with_reducible assumption | with_reducible refine Below.setCell ?_ ?_ _ | with_reducible refine Below.alloc ?_ ?_ _ | with_reducible refine Below.drew ?_ | (with_reducible apply below_chain; with_reducible assumption) | exact Nat.le_refl _ | omega | (simp <;> omega)))⟩
set_option maxRecDepth 100000 in
set_option maxHeartbeats 2000000 in
theorem laws_szPatS (w : World) (h : Hp) (hs : Sub h w) (v : Value) (xs : List (List DPNode)) (hv : DPatS h v xs) (left : Int) (h0 : 0 ≤ left) (h1 : left ≤ 1048576) :
    Calls Try.prog 33 #[v, .int .i64 left] w fun e w' => SzS left (SmallS patSmall xs) e ∧ Below w.heap.size w w' := by
  have hm := Lib.hid hv.mem
  have HV := Lib.hid hv
  obtain ⟨a, c, rfl, hc1, hc2, -⟩ := hv
  unfold maxLen at hc2
  by_cases hl : left < xs.length
  · go_enter Try.func33, Try.ntmps33
    go_wp2
    go_ret
    exact ⟨⟨_, rfl, by omega, by omega, by omega⟩, Below.refl _ _⟩
  · go_enter Try.func33, Try.ntmps33
    go_wp2
    go_loopw [1, 5] (fun lv i wr => ∃ (k : Nat) (r : Int), i = .int .i64 k ∧ lv = .int .i64 r ∧ k ≤ xs.length ∧ 0 ≤ r ∧ r ≤ left ∧ (∀ j (h : j < xs.length), j < k → patSmall xs[j]) ∧ Below w.heap.size w wr) (fun _ i _ => xs.length - (intOf i).toNat)
    case atStart => exact ⟨0, _, rfl, rfl, by omega, by omega, by omega, fun _ _ hj => absurd hj (by omega), Below.refl _ _⟩
    case round =>
      obtain ⟨k, r, rfl, rfl, hk, hr0, hr1, hsm, hbel⟩ := hrel
      have HSm := Lib.hid hsm
      clear hsm
      by_cases hlt : k < xs.length
      · skip
        obtain ⟨b, off, rfl, hcell⟩ := HV.out.cell hlt
        obtain ⟨v1, hrel, hcs⟩ := hcell k hlt
        have c0 := hcs wr (hs.below hbel)
        have hok := Lib.hid (hm.out _ (List.getElem_mem hlt))
        have hsr := hs.below hbel
        clear hcell
        go_wp2_with fail
        refine (laws_szPat _ xs[k] hok.out h hsr v1 hrel r hr0 (by omega)).mono ?_
        rintro e w1 ⟨⟨r1, rfl, u1, y1, z1⟩, hb1⟩
        have HZ := Lib.hid z1
        clear z1
        by_cases m1 : r1 < 0
        · go_wp2_with fail
          go_ret
          exact ⟨⟨_, rfl, by omega, by omega, by omega⟩, below_chain hb1 hbel hbel.size⟩
        · go_wp2_with fail
          go_roundw
          case rel => exact ⟨k + 1, r1, by go_num, rfl, by omega, by omega, by omega, fun j hj hjk => by
            rcases Nat.lt_or_ge j k with hj' | hj'
            · exact HSm.out j hj hj'
            · obtain rfl : j = k := by omega
              exact HZ.out (by omega), below_chain hb1 hbel hbel.size⟩
          case measure => simp [intOf]; omega
      · go_wp2
        go_ret
        exact ⟨⟨_, rfl, by omega, by omega, fun _ => ⟨by omega, fun j hj => HSm.out j hj (by omega)⟩⟩, hbel⟩
def patsPost (h : Hp) (w : World) (xs : List (List DPNode)) (e : Ending) (w' : World) : Prop := ∃ v', e = .returned v' ∧ DPatS (ext h w.heap.size w') v' xs ∧ Below w.heap.size w w'
set_option maxRecDepth 100000 in
set_option maxHeartbeats 2000000 in
theorem laws_toPatS (w : World) (h : Hp) (hs : Sub h w) (v : Value) (xs : List (List DPNode)) (hv : DPatS h v xs) (hsm : SmallS patSmall xs) :
    Calls Try.prog 39 #[v] w fun e w' => patsPost h w xs e w' := by
  have hm := Lib.hid hv.mem
  have HV := Lib.hid hv
  have HSm := Lib.hid hsm.2
  have hl := hsm.1
  clear hsm
  obtain ⟨a, c, rfl, hc1, hc2, -⟩ := hv
  unfold maxLen at hc2
  have hlm : xs.length ≤ maxLen := by unfold maxLen; omega
  go_enter Try.func39, Try.ntmps39
  go_wp2_with (first | (at_make; refine make_n Try.underlying40 info_Pat w rfl _ _ rfl w.heap.size _ _ xs.length rfl rfl rfl rfl (by omega) hlm (Nat.le_refl _) ?_))
  intro w1 hown hb1
  have hz1 := hb1.size
  have hg : w.heap.size < w1.heap.size := (own_parts hown).2.2.2.2.2
  have HP1 := Lib.hid (Part.start (k := 1) (R := patR) (h := h) (xs := xs) rfl Nat.one_pos (by rw [Nat.mul_one]; exact hown) ((Live.start hs).below hb1) (hs.none (Nat.le_refl _)) (Nat.le_refl _))
  clear hown
  go_wp2
  go_loopw [4] (fun i wr => ∃ (k : Nat) (hc : Hp), k ≤ xs.length ∧ i = .int .i64 k ∧ Part 1 patR 29 h w.heap.size w.heap.size xs wr k hc ∧ Below w.heap.size w wr) (fun i _ => xs.length - (intOf i).toNat)
  case atStart => exact ⟨0, h, by omega, rfl, HP1.out, hb1⟩
  case round =>
    obtain ⟨k, hc, hk, rfl, hpart, hbel⟩ := hrel
    by_cases hlt : k < xs.length
    · obtain ⟨rows, p1, p2, p3, p4, p5, p6, p7⟩ := hpart
      have hsub : Sub h wr := p5.sub.le p5.le
      have hgw : w.heap.size < wr.heap.size := (own_parts p3).2.2.2.2.2
      obtain ⟨b, off, rfl, hcell⟩ := HV.out.cell hlt
      obtain ⟨v1, hrel, hcs⟩ := hcell k hlt
      have c0 := hcs wr (hsub)
      have HP3 := Lib.hid p3
      have HP4 := Lib.hid p4
      have HP5 := Lib.hid p5
      have HP6 := Lib.hid p6
      have hok := Lib.hid (hm.out _ (List.getElem_mem hlt))
      clear hcell p3 p4 p5 p6
      go_wp2_with fail
      refine (laws_toPat _ xs[k] h hsub v1 hrel (HSm.out k hlt)).mono ?_
      rintro e w2 ⟨v1', rfl, hq2, hb2⟩
      obtain ⟨a0, d0, rfl, -⟩ := id hq2
      have HW2 := Lib.hid (own_kept HP3.out hb2 (Nat.le_refl _))
      have hz2 := hb2.size

      obtain ⟨⟨o0, g0⟩, f0⟩ := own_cells HW2.out (k) (by omega)
      have HQ := Lib.hid hq2
      clear hq2
      have HLE := Lib.hid (ext_le (w' := w2) HP5.out.sub (Nat.le_refl _))
      have HL := Lib.hid (HP5.out.call hb2 (by omega))
      have HG := Lib.hid (show ext hc wr.heap.size w2 w.heap.size = none from (ext_old hgw).trans HP6.out)
      have HS := Lib.hid (own_set HW2.out (k) (.slice a0 xs[k].length d0))
      go_wp2_with fail
      go_roundw
      case rel => exact ⟨k + 1, _, by omega, by go_num, Part.lay [.slice a0 xs[k].length d0] p1 p2 rfl (by simpa [setRow] using HS.out) HP4.out HLE.out (fun _ _ => patR_mono HLE.out) hlt ⟨_, rfl, hok.out, patRel_mono (ext_mono HP5.out.le) HQ.out⟩ (HL.out.setCell HG.out _) HG.out p7, ((below_chain hb2 hbel hbel.size).setCell (Nat.le_refl _) _)⟩
      case measure => simp [intOf]; omega
    · obtain rfl : k = xs.length := by omega
      have HO := Lib.hid (Part.done (R := patR) (fun _ _ _ _ l q => patR_mono l q) hpart)
      clear hpart
      go_wp2
      go_ret
      exact ⟨_, rfl, HO.out, hbel⟩
set_option maxRecDepth 100000 in
set_option maxHeartbeats 2000000 in
theorem laws_eqPatS (w : World) (h : Hp) (hs : Sub h w) (u v : Value) (xs : List (List DPNode)) (hu : DPatS h u xs) (hv : DPatS h v xs) :
    Calls Try.prog 48 #[u, v] w fun e w' => e = .returned (.bool true) ∧ Below w.heap.size w w' := by
  have HU := Lib.hid hu
  have HV := Lib.hid hv
  obtain ⟨a, c, rfl, hc1, hc2, -⟩ := hu
  obtain ⟨a', c', rfl, hc1', hc2', -⟩ := hv
  unfold maxLen at hc2 hc2'
  go_enter Try.func48, Try.ntmps48
  go_wp2
  go_loopw [5] (fun i wr => ∃ k : Nat, k ≤ xs.length ∧ i = .int .i64 k ∧ Below w.heap.size w wr) (fun i _ => xs.length - (intOf i).toNat)
  case atStart => exact ⟨0, by omega, rfl, Below.refl _ _⟩
  case round =>
    obtain ⟨k, hk, rfl, hbel⟩ := hrel
    by_cases hlt : k < xs.length
    · skip
      obtain ⟨b, off, rfl, hcell⟩ := HU.out.cell hlt
      obtain ⟨v1, hrel, hcs⟩ := hcell k hlt
      have c0 := hcs wr (hs.below hbel)
      obtain ⟨b', off', rfl, hcell'⟩ := HV.out.cell hlt
      obtain ⟨v1', hrel', hcs'⟩ := hcell' k hlt
      have d0 := hcs' wr (hs.below hbel)
      have HSr := Lib.hid (hs.below hbel)
      clear hcell hcell'
      go_wp2_with fail
      go_region_law (first | (refine step_guard rfl ?_; go_simp; go_at_call 11; refine (laws_eqPat _ xs[k] h HSr.out.drew v1 v1' hrel hrel').mono ?_; rintro e w2 ⟨rfl, hb2⟩; dsimp only; replace hb2 := below_undrew hb2))
      all_goals
        go_wp2
        all_goals
          refine ⟨⟨k + 1, by omega, by go_num, below_chain hb2 hbel hbel.size⟩, ?_⟩
          simp [intOf]; omega
    · go_wp2
      go_ret
      exact ⟨rfl, hbel⟩
theorem cells_sPat : Try.prog.cellsOf 34 = 1 := by kernel_rfl
theorem rd_PatS {H : Type} {enc : TypeId × Value → H} {W : World} {n : Nat} {cs : List Value} {x : DataW H × List MemPlace} (h : Rd enc Try.prog W n 34 cs x) : ∃ v xs, cs = [v] ∧ DPatS (hp W) v xs :=
  rd_slice 1 patR Try.underlying34 cells_Pat (by decide) (fun n cs' y hy => rd_Pat hy) h
end Go.Proofs.Ytokjkmibnjfkaaa
