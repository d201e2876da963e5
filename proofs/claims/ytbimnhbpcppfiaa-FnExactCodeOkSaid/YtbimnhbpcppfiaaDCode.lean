/- Data Code: how they are read; sizes, copies, comparisons. Printed by gendata.py. -/
import Derived.Test.YtbimnhbpcppfiaaDIns
import Derived.Test.YtbimnhbpcppfiaaDPat
namespace Go.Proofs.Ytbimnhbpcppfiaa
set_option linter.unusedVariables false
set_option linter.unusedSimpArgs false
open Go.RowKit Go.ChangeShapes Go.WideShapes
structure DCode where
  ins : List DIns
  pats : List (List DPNode)
def codeOk (x : DCode) : Prop := True
def codeSmall (x : DCode) : Prop := SmallS insSmall x.ins ∧ SmallS patSmall x.pats
def codeRel (h : Hp) (x : DCode) (v1 : Value) (v2 : Value) : Prop := SlOf 4 insR h v1 x.ins ∧ SlOf 1 patR h v2 x.pats
def codeR (h : Hp) (r : List Value) (x : DCode) : Prop := ∃ v1 v2 : Value, r = [v1, v2] ∧ codeOk x ∧ codeRel h x v1 v2
theorem codeRel_mono {h h' : Hp} {x : DCode} {v1 : Value} {v2 : Value} (l : HLe h h') (q : codeRel h x v1 v2) : codeRel h' x v1 v2 :=
  ⟨SlOf.le q.1 l (fun _ _ _ q => insR_mono l q), SlOf.le q.2 l (fun _ _ _ q => patR_mono l q)⟩
theorem codeR_mono {h h' : Hp} {r : List Value} {x : DCode} (l : HLe h h') (q : codeR h r x) : codeR h' r x :=
  let ⟨v1, v2, a, b, c⟩ := q; ⟨v1, v2, a, b, codeRel_mono l c⟩
abbrev DCodeS (h : Hp) (v : Value) (xs : List DCode) : Prop := SlOf 2 codeR h v xs
theorem DCodeS.mono {h h' : Hp} {v : Value} {xs : List DCode} (q : DCodeS h v xs) (l : HLe h h') : DCodeS h' v xs := SlOf.le q l fun _ _ _ q => codeR_mono l q
theorem DCodeS.mem {h : Hp} {v : Value} {xs : List DCode} (q : DCodeS h v xs) : ∀ x ∈ xs, codeOk x := by
  obtain ⟨a, c, _, _, _, r⟩ := q
  intro x hx
  rcases r with rfl | ⟨b, off, _, hc⟩
  · cases hx
  · obtain ⟨i, hi, rfl⟩ := List.getElem_of_mem hx
    obtain ⟨_, _, _, hr⟩ := hc i hi
    exact let ⟨_, _, _, b, _⟩ := hr; b
theorem DCodeS.cell {h : Hp} {a : Option Addr} {n c : Nat} {xs : List DCode} (q : DCodeS h (.slice a n c) xs) {i : Nat} (hi : i < xs.length) :
    ∃ b off, a = some ⟨b, off, none⟩ ∧ ∀ j (hj : j < xs.length), ∃ v1 v2 : Value, codeRel h xs[j] v1 v2 ∧ ∀ w : World, Sub h w → w.cell? ⟨b, off + j * 2, none⟩ = some (v1) ∧ w.cell? ⟨b, off + j * 2 + 1, none⟩ = some (v2) := by
  obtain ⟨a', c', e, _, _, r⟩ := q
  injection e with e1 e2 e3
  subst e1
  rcases r with rfl | ⟨b, off, ea, hc⟩
  · simp at hi
  · refine ⟨b, off, ea, fun j hj => ?_⟩
    obtain ⟨r, hr1, hr2, hr3⟩ := hc j hj
    obtain ⟨v1, v2, e, _, hr⟩ := hr3
    rw [e] at hr2
    refine ⟨v1, v2, hr, fun w hw => ?_⟩
    exact ⟨hr2.cell hw (i := 0) (by simp), hr2.cell hw (i := 1) (by simp)⟩
theorem cells_Code : Try.prog.cellsOf 67 = 2 := by kernel_rfl
theorem cells_sIns_of_Code : Try.prog.cellsOf 64 = 1 := by kernel_rfl
theorem cells_sPat_of_Code : Try.prog.cellsOf 65 = 1 := by kernel_rfl
theorem tlen_Code {cs : List Value} (h : cs.length = 2) : ∃ c0 c1 : Value, cs = [c0, c1] := by
  match cs, h with
  | [c0, c1], _ => exact ⟨c0, c1, rfl⟩
theorem rd_Code {H : Type} {enc : TypeId × Value → H} {W : World} {n : Nat} {cs : List Value} {x : DataW H × List MemPlace} (h : Rd enc Try.prog W n 67 cs x) : ∃ t : DCode, codeR (hp W) cs t := by
  obtain ⟨hl, m, hf⟩ := rd_fields Try.underlying67 h
  rw [cells_Code] at hl
  obtain ⟨c0, c1, rfl⟩ := tlen_Code hl
  simp only [List.forall_mem_cons, cells_sIns_of_Code, cells_sPat_of_Code] at hf
  obtain ⟨⟨_, h0⟩, ⟨_, h1⟩, _⟩ := hf
  obtain ⟨v1, k0, e0, z0⟩ := rd_InsS h0
  simp at e0
  subst e0
  obtain ⟨v2, k1, e1, z1⟩ := rd_PatS h1
  simp at e1
  subst e1
  exact ⟨⟨k0, k1⟩, _, _, rfl, trivial, ⟨z0, z1⟩⟩
theorem info_Code : (Try.prog.info? 73).map (fun i => (i.zero, i.size, i.bytes)) = some (some (.agg #[.slice none 0 0, .slice none 0 0]), 2, 48) := by kernel_rfl
set_option maxRecDepth 100000 in
set_option maxHeartbeats 2000000 in
theorem laws_szCode (w : World) (x : DCode) (hx : codeOk x) (h : Hp) (s0 : Sub h w) (v1 : Value) (v2 : Value) (q : codeRel h x v1 v2) (left : Int) (h0 : 0 ≤ left) (h1 : left ≤ 1048576) :
    Calls Try.prog 41 #[.agg #[v1, v2], .int .i64 left] w fun e w' => SzS left (codeSmall x) e ∧ Below w.heap.size w w' := by
  unfold codeOk at hx
  try unfold maxLen at hx
  unfold codeSmall
  go_enter Try.func41, Try.ntmps41
  go_wp2_with fail
  refine (laws_szInsS _ h (by repeat (first | assumption | refine Sub.alloc ?_ _ | refine Sub.drew ?_ | refine Sub.setCell ?_ (by first | exact n1 | exact n2 | exact n3) _)) v1 x.ins q.1 left (by omega) (by omega)).mono ?_
  rintro e w1 ⟨⟨r1, rfl, u1, y1, z1⟩, hb1⟩
  obtain ⟨kc1, kf1⟩ := bcell hb1; have kz1 := hb1.size; (try simp at kz1); (first | (refine (fun (kw1_0 : w.heap.size  < w1.heap.size) => ?_) ?_; rotate_left; omega) | skip); (first | (refine (fun (kw1_1 : w.heap.size + 1 < w1.heap.size) => ?_) ?_; rotate_left; omega) | skip); (first | (refine (fun (kw1_2 : w.heap.size + 1 + 1 < w1.heap.size) => ?_) ?_; rotate_left; omega) | skip)
  have s1 : Sub h w1 := Sub.below (by repeat (first | assumption | refine Sub.alloc ?_ _ | refine Sub.drew ?_ | refine Sub.setCell ?_ (by first | exact n1 | exact n2 | exact n3) _)) hb1
  by_cases m1 : r1 < 0
  · go_wp2_with fail
    go_ret
    exact ⟨⟨_, rfl, by omega, by omega, by omega⟩, (by repeat (first | with_reducible exact Below.refl _ _ | with_reducible assumption | with_reducible refine Below.setCell ?_ ?_ _ | with_reducible refine Below.alloc ?_ ?_ _ | with_reducible refine Below.drew ?_ | (with_reducible apply below_chain; with_reducible assumption) | exact Nat.le_refl _ | omega | (simp <;> omega)))⟩
  ·
    go_wp2_with fail
    refine (laws_szPatS _ h (by repeat (first | assumption | refine Sub.alloc ?_ _ | refine Sub.drew ?_ | refine Sub.setCell ?_ (by first | exact n1 | exact n2 | exact n3) _)) v2 x.pats q.2 r1 (by omega) (by omega)).mono ?_
    rintro e w2 ⟨⟨r2, rfl, u2, y2, z2⟩, hb2⟩
    obtain ⟨kc2, kf2⟩ := bcell hb2; have kz2 := hb2.size; (try simp at kz2); (first | (refine (fun (kw2_0 : w.heap.size  < w2.heap.size) => ?_) ?_; rotate_left; omega) | skip); (first | (refine (fun (kw2_1 : w.heap.size + 1 < w2.heap.size) => ?_) ?_; rotate_left; omega) | skip); (first | (refine (fun (kw2_2 : w.heap.size + 1 + 1 < w2.heap.size) => ?_) ?_; rotate_left; omega) | skip)
    have s2 : Sub h w2 := Sub.below (by repeat (first | assumption | refine Sub.alloc ?_ _ | refine Sub.drew ?_ | refine Sub.setCell ?_ (by first | exact n1 | exact n2 | exact n3) _)) hb2
    by_cases m2 : r2 < 0
    · go_wp2_with fail
      go_ret
      exact ⟨⟨_, rfl, by omega, by omega, by omega⟩, (by repeat (first | with_reducible exact Below.refl _ _ | with_reducible assumption | with_reducible refine Below.setCell ?_ ?_ _ | with_reducible refine Below.alloc ?_ ?_ _ | with_reducible refine Below.drew ?_ | (with_reducible apply below_chain; with_reducible assumption) | exact Nat.le_refl _ | omega | (simp <;> omega)))⟩
    ·
      go_wp2_with fail
      go_ret
      exact ⟨⟨_, rfl, by omega, by omega, fun _ => ⟨z1 (by omega), z2 (by omega)⟩⟩, (by repeat (first | with_reducible exact Below.refl _ _ | with_reducible assumption | with_reducible refine Below.setCell ?_ ?_ _ | with_reducible refine Below.alloc ?_ ?_ _ | with_reducible refine Below.drew ?_ | (with_reducible apply below_chain; with_reducible assumption) | exact Nat.le_refl _ | omega | (simp <;> omega)))⟩
def codePost (h : Hp) (w : World) (x : DCode) (e : Ending) (w' : World) : Prop := ∃ v1' v2' : Value, e = .returned (.agg #[v1', v2']) ∧ codeRel (ext h w.heap.size w') x v1' v2' ∧ Below w.heap.size w w'
set_option maxRecDepth 100000 in
set_option maxHeartbeats 2000000 in
theorem laws_toCode (w : World) (x : DCode) (h : Hp) (s0 : Sub h w) (v1 : Value) (v2 : Value) (q : codeRel h x v1 v2) (hsm : codeSmall x) :
    Calls Try.prog 43 #[.agg #[v1, v2]] w fun e w' => codePost h w x e w' := by
  unfold codeSmall at hsm
  have n1 := s0.none (b := w.heap.size) (by omega)
  have n2 := s0.none (b := w.heap.size + 1) (by omega)
  have n3 := s0.none (b := w.heap.size + 1 + 1) (by omega)
  go_enter Try.func43, Try.ntmps43
  go_wp2_with fail
  refine (laws_toInsS _ h (by repeat (first | assumption | refine Sub.alloc ?_ _ | refine Sub.drew ?_ | refine Sub.setCell ?_ (by first | exact n1 | exact n2 | exact n3) _)) v1 x.ins q.1 hsm.1).mono ?_
  rintro e w1 ⟨v1', rfl, p1, hb1⟩
  obtain ⟨a0, c0, rfl, -⟩ := id p1
  have P1 := Lib.hid p1
  clear p1
  obtain ⟨kc1, kf1⟩ := bcell hb1; have kz1 := hb1.size; (try simp at kz1); (first | (refine (fun (kw1_0 : w.heap.size  < w1.heap.size) => ?_) ?_; rotate_left; omega) | skip); (first | (refine (fun (kw1_1 : w.heap.size + 1 < w1.heap.size) => ?_) ?_; rotate_left; omega) | skip); (first | (refine (fun (kw1_2 : w.heap.size + 1 + 1 < w1.heap.size) => ?_) ?_; rotate_left; omega) | skip)
  have s1 : Sub h w1 := Sub.below (by repeat (first | assumption | refine Sub.alloc ?_ _ | refine Sub.drew ?_ | refine Sub.setCell ?_ (by first | exact n1 | exact n2 | exact n3) _)) hb1
  have L1 : Live h w.heap.size (ext h _ w1) w1 := Live.call (h1 := h) (by repeat (first | with_reducible assumption | exact Live.start s0 | refine Live.alloc ?_ _ | refine Live.setCell ?_ (by first | with_reducible assumption | exact (ext_old (by simp <;> omega)).trans (by first | exact n1 | exact n2 | exact n3) | exact n1 | exact n2 | exact n3) _ | (refine Live.below ?_ (by with_reducible assumption)))) hb1 (by simp <;> omega)
  go_wp2_with fail
  refine (laws_toPatS _ h (by repeat (first | assumption | refine Sub.alloc ?_ _ | refine Sub.drew ?_ | refine Sub.setCell ?_ (by first | exact n1 | exact n2 | exact n3) _)) v2 x.pats q.2 hsm.2).mono ?_
  rintro e w2 ⟨v2', rfl, p2, hb2⟩
  obtain ⟨a1, c1, rfl, -⟩ := id p2
  have P2 := Lib.hid p2
  clear p2
  obtain ⟨kc2, kf2⟩ := bcell hb2; have kz2 := hb2.size; (try simp at kz2); (first | (refine (fun (kw2_0 : w.heap.size  < w2.heap.size) => ?_) ?_; rotate_left; omega) | skip); (first | (refine (fun (kw2_1 : w.heap.size + 1 < w2.heap.size) => ?_) ?_; rotate_left; omega) | skip); (first | (refine (fun (kw2_2 : w.heap.size + 1 + 1 < w2.heap.size) => ?_) ?_; rotate_left; omega) | skip)
  have s2 : Sub h w2 := Sub.below (by repeat (first | assumption | refine Sub.alloc ?_ _ | refine Sub.drew ?_ | refine Sub.setCell ?_ (by first | exact n1 | exact n2 | exact n3) _)) hb2
  have L1 := Live.next L1 hb2 (by repeat (first | with_reducible assumption | exact Live.start s0 | refine Live.alloc ?_ _ | refine Live.setCell ?_ (by first | with_reducible assumption | exact (ext_old (by simp <;> omega)).trans (by first | exact n1 | exact n2 | exact n3) | exact n1 | exact n2 | exact n3) _ | (refine Live.below ?_ (by with_reducible assumption))))
  have L2 : Live h w.heap.size (ext h _ w2) w2 := Live.call (h1 := h) (by repeat (first | with_reducible assumption | exact Live.start s0 | refine Live.alloc ?_ _ | refine Live.setCell ?_ (by first | with_reducible assumption | exact (ext_old (by simp <;> omega)).trans (by first | exact n1 | exact n2 | exact n3) | exact n1 | exact n2 | exact n3) _ | (refine Live.below ?_ (by with_reducible assumption)))) hb2 (by simp <;> omega)
  go_wp2_with fail
  refine bodyPost_ret (v := .agg #[.slice a0 x.ins.length c0, .slice a1 x.pats.length c1]) (by simp [results, Try.results43, go_sem, kc1, kc2, kw1_0, kw1_1, kw1_2]) rfl ⟨_, _, rfl, ?_, ?_⟩
  · exact ⟨(SlOf.le P1.out (Live.out (B := w.heap.size) (by repeat (first | with_reducible assumption | exact Live.start s0 | refine Live.alloc ?_ _ | refine Live.setCell ?_ (by first | with_reducible assumption | exact (ext_old (by simp <;> omega)).trans (by first | exact n1 | exact n2 | exact n3) | exact n1 | exact n2 | exact n3) _ | (refine Live.below ?_ (by with_reducible assumption))))) (fun _ _ _ q => insR_mono (Live.out (B := w.heap.size) (by repeat (first | with_reducible assumption | exact Live.start s0 | refine Live.alloc ?_ _ | refine Live.setCell ?_ (by first | with_reducible assumption | exact (ext_old (by simp <;> omega)).trans (by first | exact n1 | exact n2 | exact n3) | exact n1 | exact n2 | exact n3) _ | (refine Live.below ?_ (by with_reducible assumption))))) q)), (SlOf.le P2.out (Live.out (B := w.heap.size) (by repeat (first | with_reducible assumption | exact Live.start s0 | refine Live.alloc ?_ _ | refine Live.setCell ?_ (by first | with_reducible assumption | exact (ext_old (by simp <;> omega)).trans (by first | exact n1 | exact n2 | exact n3) | exact n1 | exact n2 | exact n3) _ | (refine Live.below ?_ (by with_reducible assumption))))) (fun _ _ _ q => patR_mono (Live.out (B := w.heap.size) (by repeat (first | with_reducible assumption | exact Live.start s0 | refine Live.alloc ?_ _ | refine Live.setCell ?_ (by first | with_reducible assumption | exact (ext_old (by simp <;> omega)).trans (by first | exact n1 | exact n2 | exact n3) | exact n1 | exact n2 | exact n3) _ | (refine Live.below ?_ (by with_reducible assumption))))) q))⟩
  · exact (by repeat (first | with_reducible exact Below.refl _ _ | with_reducible assumption | with_reducible refine Below.setCell ?_ ?_ _ | with_reducible refine Below.alloc ?_ ?_ _ | with_reducible refine Below.drew ?_ | (with_reducible apply below_chain; with_reducible assumption) | exact Nat.le_refl _ | omega | (simp <;> omega)))
set_option maxRecDepth 100000 in
set_option maxHeartbeats 2000000 in
theorem laws_eqCode (w : World) (x : DCode) (h : Hp) (s0 : Sub h w) (u1 : Value) (u2 : Value) (v1 : Value) (v2 : Value) (p : codeRel h x u1 u2) (q : codeRel h x v1 v2) :
    Calls Try.prog 45 #[.agg #[u1, u2], .agg #[v1, v2]] w fun e w' => e = .returned (.bool true) ∧ Below w.heap.size w w' := by
  go_enter Try.func45, Try.ntmps45
  go_wp2_with fail
  refine (laws_eqInsS _ h (by repeat (first | assumption | refine Sub.alloc ?_ _ | refine Sub.drew ?_ | refine Sub.setCell ?_ (by first | exact n1 | exact n2 | exact n3) _)) u1 v1 x.ins p.1 q.1).mono ?_
  rintro e w1 ⟨rfl, hb1⟩
  obtain ⟨kc1, kf1⟩ := bcell hb1; have kz1 := hb1.size; (try simp at kz1); (first | (refine (fun (kw1_0 : w.heap.size  < w1.heap.size) => ?_) ?_; rotate_left; omega) | skip); (first | (refine (fun (kw1_1 : w.heap.size + 1 < w1.heap.size) => ?_) ?_; rotate_left; omega) | skip); (first | (refine (fun (kw1_2 : w.heap.size + 1 + 1 < w1.heap.size) => ?_) ?_; rotate_left; omega) | skip)
  have s1 : Sub h w1 := Sub.below (by repeat (first | assumption | refine Sub.alloc ?_ _ | refine Sub.drew ?_ | refine Sub.setCell ?_ (by first | exact n1 | exact n2 | exact n3) _)) hb1
  go_wp2_with fail
  refine (laws_eqPatS _ h (by repeat (first | assumption | refine Sub.alloc ?_ _ | refine Sub.drew ?_ | refine Sub.setCell ?_ (by first | exact n1 | exact n2 | exact n3) _)) u2 v2 x.pats p.2 q.2).mono ?_
  rintro e w2 ⟨rfl, hb2⟩
  obtain ⟨kc2, kf2⟩ := bcell hb2; have kz2 := hb2.size; (try simp at kz2); (first | (refine (fun (kw2_0 : w.heap.size  < w2.heap.size) => ?_) ?_; rotate_left; omega) | skip); (first | (refine (fun (kw2_1 : w.heap.size + 1 < w2.heap.size) => ?_) ?_; rotate_left; omega) | skip); (first | (refine (fun (kw2_2 : w.heap.size + 1 + 1 < w2.heap.size) => ?_) ?_; rotate_left; omega) | skip)
  have s2 : Sub h w2 := Sub.below (by repeat (first | assumption | refine Sub.alloc ?_ _ | refine Sub.drew ?_ | refine Sub.setCell ?_ (by first | exact n1 | exact n2 | exact n3) _)) hb2
  go_wp2_with fail
  go_ret
  exact ⟨rfl, (by repeat (first | with_reducible exact Below.refl _ _ | with_reducible assumption | with_reducible refine Below.setCell ?_ ?_ _ | with_reducible refine Below.alloc ?_ ?_ _ | with_reducible refine Below.drew ?_ | (with_reducible apply below_chain; with_reducible assumption) | exact Nat.le_refl _ | omega | (simp <;> omega)))⟩
end Go.Proofs.Ytbimnhbpcppfiaa
