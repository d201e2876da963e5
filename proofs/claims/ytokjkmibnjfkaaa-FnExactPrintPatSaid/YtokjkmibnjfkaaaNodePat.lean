/- A node of a pattern: the program's text. -/
import Derived.Test.YtokjkmibnjfkaaaOrdPat
import Derived.Test.YtokjkmibnjfkaaaShape
import Derived.Test.YtokjkmibnjfkaaaNameWalks
import Derived.Test.YtokjkmibnjfkaaaWrapWalks
import Derived.Test.YtokjkmibnjfkaaaSteps
import Derived.Deep.RegionLaw
import Derived.Deep.QuietTactic
import Derived.BigQuiet
namespace Go.Proofs.Ytokjkmibnjfkaaa
set_option linter.unusedVariables false
set_option linter.unusedSimpArgs false
open Go.RowKit
/-- the only child is a pair. -/
def pairP (xs : List DPNode) (l : List Int) : Bool := match l with
  | [k] => decide (0 ≤ k) && decide (k < xs.length) && (match xs[k.toNat]? with | some x => x.kind == 5 | none => false)
  | _ => false
theorem pairP_no (xs : List DPNode) (l : List Int) (h : ¬ l.length = 1) : pairP xs l = false := by
  unfold pairP
  split
  · simp at h
  · rfl
theorem pairP_at (xs : List DPNode) (l : List Int) (h : l.length = 1) (k : Nat) (hk : k < xs.length) (hl : l[0]'(by omega) = (k : Int)) : pairP xs l = (xs[k].kind == 5) := by
  match l, h with
  | [z], _ =>
    have hz : z = (k : Int) := hl
    subst hz
    have e : pairP xs [(k : Int)] = (decide (0 ≤ (k : Int)) && decide ((k : Int) < xs.length) && (match xs[(k : Int).toNat]? with | some x => x.kind == 5 | none => false)) := rfl
    rw [e, decide_eq_true (by omega), decide_eq_true (by omega), Int.toNat_natCast, List.getElem?_eq_getElem hk]
    rfl
theorem pairP_out (xs : List DPNode) (l : List Int) (h : l.length = 1) (hl : l[0]'(by omega) < 0 ∨ (xs.length : Int) ≤ l[0]'(by omega)) : pairP xs l = false := by
  match l, h with
  | [z], _ =>
    have hz : z < 0 ∨ (xs.length : Int) ≤ z := hl
    have e : pairP xs [z] = (decide (0 ≤ z) && decide (z < xs.length) && (match xs[z.toNat]? with | some x => x.kind == 5 | none => false)) := rfl
    rw [e]
    rcases hz with hz | hz
    · rw [decide_eq_false (by omega)]; rfl
    · rw [decide_eq_false (p := z < (xs.length : Int)) (by omega), Bool.and_false]; rfl
def pnodeB (p : Bool) (x : DPNode) : Bool :=
  if x.kind = 3 then ((x.kids.length : Int) == 0) && x.s.toList.isEmpty && (decide (-4611686018427387903 ≤ x.n) && decide (x.n ≤ 4611686018427387903))
  else if x.kind = 2 then ((x.kids.length : Int) == 0) && (x.n == 0) && nameM x.s
  else if x.kind = 6 ∨ x.kind = 1 then ((x.kids.length : Int) == 0) && (x.n == 0) && x.s.toList.isEmpty
  else if x.kind = 5 then ((x.kids.length : Int) == 2) && (x.n == 0) && x.s.toList.isEmpty
  else if x.kind = 4 then (x.n == 0) && shapeM x.s x.kids.length p
  else false
def pnodeM (xs : List DPNode) (x : DPNode) : Bool := pnodeB (pairP xs x.kids) x
set_option maxRecDepth 100000 in
set_option maxHeartbeats 4000000 in
theorem impl_patNodeOk (w : World) (h : Hp) (hs : Sub h w) (v : Value) (xs : List DPNode) (hv : DPNodeS h v xs) (hl : xs.length ≤ 1000000000) (x : DPNode) (hx : pNodeOk x) (vx : Value) (hvx : IntS h vx x.kids) (hkl : x.kids.length ≤ 1000000000)
    (hin : ∀ h1 : x.kids.length = 1, ∃ k : Nat, x.kids[0]'(by omega) = (k : Int) ∧ k < xs.length) :
    Calls Try.prog 71 #[.agg #[v], .agg #[.int .i64 x.kind, .int .i64 x.n, .string x.s, vx]] w fun e w' => e = .returned (.bool (pnodeM xs x)) ∧ Below w.heap.size w w' := by
  obtain ⟨kind, n, s, kids⟩ := x
  obtain ⟨hk, hn, hsz⟩ := hx
  unfold I64 at hk hn
  dsimp only at hk hn hsz hvx hkl hin ⊢
  have HVX := Lib.hid hvx
  obtain ⟨ax, cx, rfl, hx1, hx2, -⟩ := hvx
  unfold maxLen at hx2
  have HV := Lib.hid hv
  obtain ⟨a, c, rfl, hc1, hc2, -⟩ := hv
  unfold maxLen at hc2
  by_cases h4 : kind = 4
  · subst h4
    have HM : pnodeM xs ⟨4, n, s, kids⟩ = ((n == 0) && shapeM s kids.length (pairP xs kids)) := by unfold pnodeM pnodeB; simp
    by_cases hn0 : n = 0
    · subst hn0
      obtain ⟨bq, hbq⟩ : ∃ b, pnodeM xs ⟨4, 0, s, kids⟩ = b := ⟨_, rfl⟩
      rw [hbq] at HM ⊢
      clear hbq
      by_cases h1 : kids.length = 1
      · obtain ⟨k, hk0, hkx⟩ := hin h1
        have hP := pairP_at xs kids h1 k hkx hk0
        obtain ⟨bl, off, rfl, hcell⟩ := HVX.out.cell (i := 0) (by omega)
        obtain ⟨bl2, off2, rfl, hcell2⟩ := HV.out.cell hkx
        obtain ⟨v1, -, hcs⟩ := hcell2 k hkx
        obtain ⟨W, hW⟩ : ∃ W, W = (w.alloc (.cells #[.slice (some ⟨bl2, off2, none⟩) xs.length c] 29)).alloc (.cells #[.int .i64 4, .int .i64 0, .string s, .slice (some ⟨bl, off, none⟩) kids.length cx] 109) := ⟨_, rfl⟩
        have e0 := hcell 0 (by omega) W (by rw [hW]; exact (hs.alloc _).alloc _)
        obtain ⟨e1, -⟩ := hcs W (by rw [hW]; exact (hs.alloc _).alloc _)
        rw [hk0] at e0
        rw [hW] at e0 e1
        rw [Nat.add_zero] at e0
        clear hW hcell hcell2 hcs hin
        have hkk : (kids.length : Int) = 1 := by omega
        have hkx' : (k : Int) < (xs.length : Int) := by omega
        have hkx0 : (0 : Int) ≤ (k : Int) := by omega
        rw [h1] at HM
        clear h1 hk0 hkl hx1 hc1
        cases hq : (xs[k].kind == 5)
        all_goals
          rw [hq] at hP
          rw [hP] at HM
          have HMM := Lib.hid HM
          clear HM hP
          go_enter Try.func71, Try.ntmps71
          go_wp2_with fail
          go_quiet (first | (go_at_call 113; refine Calls.quiet_of_same ((impl_conShape _ s hsz 1 _).mono fun _ _ q => ⟨q.1, q.2.symm⟩)))
          all_goals
            go_wp2_with fail
            go_ret
            exact ⟨ret_b (by rw [HMM.out]; simp), below_drewI ((by repeat (first | with_reducible exact Below.refl _ _ | with_reducible assumption | with_reducible refine Below.setCell ?_ ?_ _ | with_reducible refine Below.alloc ?_ ?_ _ | with_reducible refine Below.drew ?_ | (with_reducible apply below_chain; with_reducible assumption) | exact Nat.le_refl _ | omega | (simp <;> omega)))) _⟩
      · have hP := pairP_no xs kids h1
        rw [hP] at HM
        have HMM := Lib.hid HM
        have hkk : ((kids.length : Int) == 1) = false := by simpa using (show ¬ (kids.length : Int) = 1 by omega)
        have hkk2 : decide ((kids.length : Int) = 1) = false := by simpa using (show ¬ (kids.length : Int) = 1 by omega)
        clear HM hP hin
        go_enter Try.func71, Try.ntmps71
        go_wp2_with fail
        go_quiet (first | (go_at_call 113; refine Calls.quiet_of_same ((impl_conShape _ s hsz kids.length _).mono fun _ _ q => ⟨q.1, q.2.symm⟩)))
        all_goals
          go_wp2_with fail
          go_ret
          exact ⟨ret_b (by rw [HMM.out]; simp), below_drewI ((by repeat (first | with_reducible exact Below.refl _ _ | with_reducible assumption | with_reducible refine Below.setCell ?_ ?_ _ | with_reducible refine Below.alloc ?_ ?_ _ | with_reducible refine Below.drew ?_ | (with_reducible apply below_chain; with_reducible assumption) | exact Nat.le_refl _ | omega | (simp <;> omega)))) _⟩
    · have hn1 : (n == 0) = false := by simpa using hn0
      have hn2 : decide (n = 0) = false := by simpa using hn0
      rw [hn1, Bool.false_and] at HM
      rw [HM]
      clear HM hin hn0
      go_enter Try.func71, Try.ntmps71
      go_wp2_with fail
      go_quiet (first | (go_at_call 113; refine Calls.quiet_of_same ((impl_conShape _ s hsz kids.length _).mono fun _ _ q => ⟨q.1, q.2.symm⟩)))
      all_goals
        go_wp2_with fail
        go_ret
        exact ⟨rfl, below_drewI ((by repeat (first | with_reducible exact Below.refl _ _ | with_reducible assumption | with_reducible refine Below.setCell ?_ ?_ _ | with_reducible refine Below.alloc ?_ ?_ _ | with_reducible refine Below.drew ?_ | (with_reducible apply below_chain; with_reducible assumption) | exact Nat.le_refl _ | omega | (simp <;> omega)))) _⟩
  · clear hin
    have HE := Lib.hid (show ((kids.length : Int) == 0) = decide (kids = []) by cases kids <;> simp <;> omega)
    go_enter Try.func71, Try.ntmps71
    go_wp2_with (first | (go_at_call 68; refine (impl_within _ _ _ _).mono ?_; rintro e w' ⟨rfl, rfl⟩) | (go_at_call 59; refine (impl_NameOk _ _ hsz).mono ?_; rintro e w1 ⟨rfl, hb1⟩; obtain ⟨kc1, kf1⟩ := bcell hb1; have kz1 := hb1.size; (try simp at kz1); (first | (refine (fun (kw1_0 : w.heap.size  < w1.heap.size) => ?_) ?_; rotate_left; omega) | skip); (first | (refine (fun (kw1_1 : w.heap.size + 1 < w1.heap.size) => ?_) ?_; rotate_left; omega) | skip); (first | (refine (fun (kw1_2 : w.heap.size + 1 + 1 < w1.heap.size) => ?_) ?_; rotate_left; omega) | skip)))
    all_goals
      go_ret
      refine ⟨ret_b ?_, (by repeat (first | with_reducible exact Below.refl _ _ | with_reducible assumption | with_reducible refine Below.setCell ?_ ?_ _ | with_reducible refine Below.alloc ?_ ?_ _ | with_reducible refine Below.drew ?_ | (with_reducible apply below_chain; with_reducible assumption) | exact Nat.le_refl _ | omega | (simp <;> omega)))⟩
      have hE := HE.out
      clear HV HVX
      simp only [pnodeM, pnodeB, hE]
      try clear kc1 kf1 hb1
      first | (simp_all; done) | grind
end Go.Proofs.Ytokjkmibnjfkaaa
