/- Data Data: how they are read; sizes, copies, comparisons. Printed by gendata.py. -/
import Derived.Test.YthpphiplbaehdaaDDNode
namespace Go.Proofs.Ythpphiplbaehdaa
set_option linter.unusedVariables false
set_option linter.unusedSimpArgs false
open Go.RowKit Go.ChangeShapes Go.WideShapes
def dataOk (x : List DDNode) : Prop := True
def dataSmall (x : List DDNode) : Prop := SmallS dNodeSmall x
def dataRel (h : Hp) (x : List DDNode) (v1 : Value) : Prop := SlOf 4 dNodeR h v1 x
def dataR (h : Hp) (r : List Value) (x : List DDNode) : Prop := ∃ v1 : Value, r = [v1] ∧ dataOk x ∧ dataRel h x v1
theorem dataRel_mono {h h' : Hp} {x : List DDNode} {v1 : Value} (l : HLe h h') (q : dataRel h x v1) : dataRel h' x v1 :=
  SlOf.le q l (fun _ _ _ q => dNodeR_mono l q)
theorem dataR_mono {h h' : Hp} {r : List Value} {x : List DDNode} (l : HLe h h') (q : dataR h r x) : dataR h' r x :=
  let ⟨v1, a, b, c⟩ := q; ⟨v1, a, b, dataRel_mono l c⟩
abbrev DDataS (h : Hp) (v : Value) (xs : List (List DDNode)) : Prop := SlOf 1 dataR h v xs
theorem DDataS.mono {h h' : Hp} {v : Value} {xs : List (List DDNode)} (q : DDataS h v xs) (l : HLe h h') : DDataS h' v xs := SlOf.le q l fun _ _ _ q => dataR_mono l q
theorem DDataS.mem {h : Hp} {v : Value} {xs : List (List DDNode)} (q : DDataS h v xs) : ∀ x ∈ xs, dataOk x := by
  obtain ⟨a, c, _, _, _, r⟩ := q
  intro x hx
  rcases r with rfl | ⟨b, off, _, hc⟩
  · cases hx
  · obtain ⟨i, hi, rfl⟩ := List.getElem_of_mem hx
    obtain ⟨_, _, _, hr⟩ := hc i hi
    exact let ⟨_, _, b, _⟩ := hr; b
theorem DDataS.cell {h : Hp} {a : Option Addr} {n c : Nat} {xs : List (List DDNode)} (q : DDataS h (.slice a n c) xs) {i : Nat} (hi : i < xs.length) :
    ∃ b off, a = some ⟨b, off, none⟩ ∧ ∀ j (hj : j < xs.length), ∃ v1 : Value, dataRel h xs[j] v1 ∧ ∀ w : World, Sub h w → w.cell? ⟨b, off + j, none⟩ = some (v1) := by
  obtain ⟨a', c', e, _, _, r⟩ := q
  injection e with e1 e2 e3
  subst e1
  rcases r with rfl | ⟨b, off, ea, hc⟩
  · simp at hi
  · refine ⟨b, off, ea, fun j hj => ?_⟩
    obtain ⟨r, hr1, hr2, hr3⟩ := hc j hj
    obtain ⟨v1, e, _, hr⟩ := hr3
    rw [e] at hr2
    refine ⟨v1, hr, fun w hw => ?_⟩
    rw [Nat.mul_one] at hr2
    exact hr2.cell hw (i := 0) (by simp)
theorem cells_Data : Try.prog.cellsOf 47 = 1 := by kernel_rfl
theorem cells_sDNode_of_Data : Try.prog.cellsOf 45 = 1 := by kernel_rfl
theorem tlen_Data {cs : List Value} (h : cs.length = 1) : ∃ c0 : Value, cs = [c0] := by
  match cs, h with
  | [c0], _ => exact ⟨c0, rfl⟩
theorem rd_Data {H : Type} {enc : TypeId × Value → H} {W : World} {n : Nat} {cs : List Value} {x : DataW H × List MemPlace} (h : Rd enc Try.prog W n 47 cs x) : ∃ t : List DDNode, dataR (hp W) cs t := by
  obtain ⟨hl, m, hf⟩ := rd_fields Try.underlying47 h
  rw [cells_Data] at hl
  obtain ⟨c0, rfl⟩ := tlen_Data hl
  simp only [List.forall_mem_cons, cells_sDNode_of_Data] at hf
  obtain ⟨⟨_, h0⟩, _⟩ := hf
  obtain ⟨v1, k0, e0, z0⟩ := rd_DNodeS h0
  simp at e0
  subst e0
  exact ⟨k0, _, rfl, trivial, z0⟩
theorem info_Data : (Try.prog.info? 52).map (fun i => (i.zero, i.size, i.bytes)) = some (some (.agg #[.slice none 0 0]), 1, 24) := by kernel_rfl
set_option maxRecDepth 100000 in
set_option maxHeartbeats 2000000 in
theorem laws_szData (w : World) (x : List DDNode) (hx : dataOk x) (h : Hp) (s0 : Sub h w) (v1 : Value) (q : dataRel h x v1) (left : Int) (h0 : 0 ≤ left) (h1 : left ≤ 1048576) :
    Calls Try.prog 28 #[.agg #[v1], .int .i64 left] w fun e w' => SzS left (dataSmall x) e ∧ Below w.heap.size w w' := by
  unfold dataOk at hx
  try unfold maxLen at hx
  unfold dataSmall
  go_enter Try.func28, Try.ntmps28
  go_wp2_with fail
  refine (laws_szDNodeS _ h (by repeat (first | assumption | refine Sub.alloc ?_ _ | refine Sub.drew ?_)) v1 x q left (by omega) (by omega)).mono ?_
  rintro e w1 ⟨⟨r1, rfl, u1, y1, z1⟩, hb1⟩
  obtain ⟨kc1, kf1⟩ := bcell hb1; have kz1 := hb1.size; (try simp at kz1); (first | (refine (fun (kw1_0 : w.heap.size  < w1.heap.size) => ?_) ?_; rotate_left; omega) | skip); (first | (refine (fun (kw1_1 : w.heap.size + 1 < w1.heap.size) => ?_) ?_; rotate_left; omega) | skip); (first | (refine (fun (kw1_2 : w.heap.size + 1 + 1 < w1.heap.size) => ?_) ?_; rotate_left; omega) | skip)
  have s1 : Sub h w1 := Sub.below (by repeat (first | assumption | refine Sub.alloc ?_ _ | refine Sub.drew ?_)) hb1
  by_cases m1 : r1 < 0
  · go_wp2_with fail
    go_ret
    exact ⟨⟨_, rfl, by omega, by omega, by omega⟩, (by repeat (first | with_reducible exact Below.refl _ _ | with_reducible assumption | with_reducible refine Below.setCell ?_ ?_ _ | with_reducible refine Below.alloc ?_ ?_ _ | with_reducible refine Below.drew ?_ | (with_reducible apply below_chain; with_reducible assumption) | exact Nat.le_refl _ | omega | (simp <;> omega)))⟩
  ·
    go_wp2_with fail
    go_ret
    exact ⟨⟨_, rfl, by omega, by omega, fun _ => z1 (by omega)⟩, (by repeat (first | with_reducible exact Below.refl _ _ | with_reducible assumption | with_reducible refine Below.setCell ?_ ?_ _ | with_reducible refine Below.alloc ?_ ?_ _ | with_reducible refine Below.drew ?_ | (with_reducible apply below_chain; with_reducible assumption) | exact Nat.le_refl _ | omega | (simp <;> omega)))⟩
def dataPost (h : Hp) (w : World) (x : List DDNode) (e : Ending) (w' : World) : Prop := ∃ v1' : Value, e = .returned (.agg #[v1']) ∧ dataRel (ext h w.heap.size w') x v1' ∧ Below w.heap.size w w'
set_option maxRecDepth 100000 in
set_option maxHeartbeats 2000000 in
theorem laws_toData (w : World) (x : List DDNode) (h : Hp) (s0 : Sub h w) (v1 : Value) (q : dataRel h x v1) (hsm : dataSmall x) :
    Calls Try.prog 30 #[.agg #[v1]] w fun e w' => dataPost h w x e w' := by
  unfold dataSmall at hsm
  have n1 := s0.none (b := w.heap.size) (by omega)
  have n2 := s0.none (b := w.heap.size + 1) (by omega)
  have n3 := s0.none (b := w.heap.size + 1 + 1) (by omega)
  go_enter Try.func30, Try.ntmps30
  go_wp2_with fail
  refine (laws_toDNodeS _ h (by repeat (first | assumption | refine Sub.alloc ?_ _ | refine Sub.drew ?_)) v1 x q hsm).mono ?_
  rintro e w1 ⟨v1', rfl, p1, hb1⟩
  obtain ⟨a0, c0, rfl, -⟩ := id p1
  have P1 := Lib.hid p1
  clear p1
  obtain ⟨kc1, kf1⟩ := bcell hb1; have kz1 := hb1.size; (try simp at kz1); (first | (refine (fun (kw1_0 : w.heap.size  < w1.heap.size) => ?_) ?_; rotate_left; omega) | skip); (first | (refine (fun (kw1_1 : w.heap.size + 1 < w1.heap.size) => ?_) ?_; rotate_left; omega) | skip); (first | (refine (fun (kw1_2 : w.heap.size + 1 + 1 < w1.heap.size) => ?_) ?_; rotate_left; omega) | skip)
  have s1 : Sub h w1 := Sub.below (by repeat (first | assumption | refine Sub.alloc ?_ _ | refine Sub.drew ?_)) hb1
  have L1 : Live h w.heap.size (ext h _ w1) w1 := Live.call (h1 := h) (by repeat (first | with_reducible assumption | exact Live.start s0 | refine Live.alloc ?_ _ | refine Live.setCell ?_ (by first | with_reducible assumption | exact (ext_old (by simp <;> omega)).trans (by first | exact n1 | exact n2 | exact n3) | exact n1 | exact n2 | exact n3) _ | (refine Live.below ?_ (by with_reducible assumption)))) hb1 (by simp <;> omega)
  go_wp2_with fail
  refine bodyPost_ret (v := .agg #[.slice a0 x.length c0]) (by simp [results, Try.results30, go_sem, kc1]) rfl ⟨_, rfl, ?_, ?_⟩
  · exact (SlOf.le P1.out (Live.out (B := w.heap.size) (by repeat (first | with_reducible assumption | exact Live.start s0 | refine Live.alloc ?_ _ | refine Live.setCell ?_ (by first | with_reducible assumption | exact (ext_old (by simp <;> omega)).trans (by first | exact n1 | exact n2 | exact n3) | exact n1 | exact n2 | exact n3) _ | (refine Live.below ?_ (by with_reducible assumption))))) (fun _ _ _ q => dNodeR_mono (Live.out (B := w.heap.size) (by repeat (first | with_reducible assumption | exact Live.start s0 | refine Live.alloc ?_ _ | refine Live.setCell ?_ (by first | with_reducible assumption | exact (ext_old (by simp <;> omega)).trans (by first | exact n1 | exact n2 | exact n3) | exact n1 | exact n2 | exact n3) _ | (refine Live.below ?_ (by with_reducible assumption))))) q))
  · exact (by repeat (first | with_reducible exact Below.refl _ _ | with_reducible assumption | with_reducible refine Below.setCell ?_ ?_ _ | with_reducible refine Below.alloc ?_ ?_ _ | with_reducible refine Below.drew ?_ | (with_reducible apply below_chain; with_reducible assumption) | exact Nat.le_refl _ | omega | (simp <;> omega)))
set_option maxRecDepth 100000 in
set_option maxHeartbeats 2000000 in
theorem laws_eqData (w : World) (x : List DDNode) (h : Hp) (s0 : Sub h w) (u1 : Value) (v1 : Value) (p : dataRel h x u1) (q : dataRel h x v1) :
    Calls Try.prog 32 #[.agg #[u1], .agg #[v1]] w fun e w' => e = .returned (.bool true) ∧ Below w.heap.size w w' := by
  go_enter Try.func32, Try.ntmps32
  go_wp2_with fail
  refine (laws_eqDNodeS _ h (by repeat (first | assumption | refine Sub.alloc ?_ _ | refine Sub.drew ?_)) u1 v1 x p q).mono ?_
  rintro e w1 ⟨rfl, hb1⟩
  obtain ⟨kc1, kf1⟩ := bcell hb1; have kz1 := hb1.size; (try simp at kz1); (first | (refine (fun (kw1_0 : w.heap.size  < w1.heap.size) => ?_) ?_; rotate_left; omega) | skip); (first | (refine (fun (kw1_1 : w.heap.size + 1 < w1.heap.size) => ?_) ?_; rotate_left; omega) | skip); (first | (refine (fun (kw1_2 : w.heap.size + 1 + 1 < w1.heap.size) => ?_) ?_; rotate_left; omega) | skip)
  have s1 : Sub h w1 := Sub.below (by repeat (first | assumption | refine Sub.alloc ?_ _ | refine Sub.drew ?_)) hb1
  go_wp2_with fail
  go_ret
  exact ⟨rfl, (by repeat (first | with_reducible exact Below.refl _ _ | with_reducible assumption | with_reducible refine Below.setCell ?_ ?_ _ | with_reducible refine Below.alloc ?_ ?_ _ | with_reducible refine Below.drew ?_ | (with_reducible apply below_chain; with_reducible assumption) | exact Nat.le_refl _ | omega | (simp <;> omega)))⟩
end Go.Proofs.Ythpphiplbaehdaa
