import Derived.Test.YtgcdbmcoendcdaaGreatHProgD
/- A node of a program, by kinds: the reference's text, over the second engine. Printed by progs2.py. -/
set_option maxRecDepth 100000
set_option maxHeartbeats 16000000
namespace Go.Proofs.YtgcdbmcoendcdaaGreat
set_option linter.unusedVariables false
set_option linter.unusedSimpArgs false
open Go.RowKit
theorem nodeM_iff {nodes : List MNode} {x : MNode} : nodeM nodes x = true ↔ inB nodes x.kids = true ∧ 0 ≤ x.at_ ∧ (arI x.kind < 0 ∨ (x.kids.length : Int) = arI x.kind) ∧ (x.kind = 13 ∨ (x.pats.length : Int) = 0) ∧ (x.kind = 1 ∨ x.kind = 3 ∨ x.n = 0) ∧ kindI nodes x (nameB x) = true ∧ (x.pats.all fun q => patM q.nodes) = true := by
  unfold nodeM nodeI
  simp only [Bool.and_eq_true, Bool.or_eq_true, decide_eq_true_eq]
  constructor
  · rintro ⟨⟨h1, ⟨⟨⟨h2, h3⟩, h4⟩, h5⟩, h6⟩, h7⟩
    exact ⟨h1, h2, h3, h4.imp id (fun q => by omega), by omega, h6, h7⟩
  · rintro ⟨h1, h2, h3, h4, h5, h6, h7⟩
    exact ⟨⟨h1, ⟨⟨⟨h2, h3⟩, h4.imp id (fun q => by omega)⟩, by omega⟩, h6⟩, h7⟩
theorem pats0 {l : List MPat} (h : (l.length : Int) = 0) : (l.all fun q => patM q.nodes) = true := by
  have : l = [] := List.eq_nil_of_length_eq_zero (by omega)
  rw [this]; rfl
theorem inB_bad {nodes : List MNode} {l : List Int} {k : Nat} (h : k < l.length) (hb : l[k] < 0 ∨ (nodes.length : Int) ≤ l[k]) : inB nodes l = false := by
  refine all_bad h ?_
  rcases hb with q | q
  · rw [decide_eq_false (by omega)]; rfl
  · rw [decide_eq_false (by omega : ¬ l[k] < (nodes.length : Int))]; simp
theorem inB_one {nodes : List MNode} {x : Int} (h1 : 0 ≤ x) (h2 : x < (nodes.length : Int)) : (decide (0 ≤ x) && decide (x < (nodes.length : Int))) = true := by
  rw [decide_eq_true h1, decide_eq_true h2]; rfl
theorem l04Node_a (p : MProgram) (kind : Int) (hkd : (kind = 1 ∧ arI kind = 0) ∨ (kind = 2 ∧ arI kind = 0) ∨ (kind = 3 ∧ arI kind = 0)) (at_ n : Int) (s : ByteArray) (kids : List Int) (pats : List MPat) (hkl : kids.length ≤ 1048576) (hpl : pats.length ≤ 1048576) (hsz : s.size ≤ maxLen) (hop : ∀ q ∈ pats, q.ok) (hsp : smS MPat.sm pats) :
    FCon Tryz.prog 49 [.ag p.enc, .ag (MNode.mk kind at_ n s kids pats).enc] (fun r _ => r = .s (.bool (nodeM p.nodes ⟨kind, at_, n, s, kids, pats⟩))) := by
  obtain ⟨k0, hk0⟩ : ∃ k0 : Int, k0 = kind := ⟨_, rfl⟩
  rcases hkd with ⟨rfl, ha⟩ | ⟨rfl, ha⟩ | ⟨rfl, ha⟩
  all_goals
    refine FCon.intro (PMr [15, 24]) _ Tryz.func49 (by kernel_rfl) rfl _ Tryz.ntmps49 rfl [(15, 26, [], [], (lin [] [0, 1, 2, 3, 4, 5, 6, 7, 8, 9, 10, 11, 12, 13, 14, 15, 16, 17, 18, 19, 20, 21, 22, 23, 24, 25])), (24, 15, [], [], (lin [] [0, 1, 2, 3, 4, 5, 6, 7, 8, 9, 10, 11, 12, 13, 14])), (26, 11, [], [], (lin [] [0, 1, 2, 3, 4, 5, 6, 7, 8, 9, 10]))] (by decide +kernel) (by simp) (by simp) rfl (by first | rfl | simp only [go_sem]) ?_
    (have hWf := WFx.mk (ai @MNode.enc_eq <| ai @MProgram.enc_eq <| @ha); repeat' (first | refine zS ?_ | exact zE | with_reducible apply And.intro | with_reducible exact zB0 | with_reducible refine zB fun hb => ?_ | exact zC | refine zT ?_ | fail))
    all_goals first
    | (
       (try clear hop hsp)
       (try clear hK)
       refine sB ?_
       rw [Bool.eq_iff_iff, nodeM_iff]
       have hpa0 := @pats0 pats
       simp only [kindI, ha, nameB] at *
       first | (simp_all; done) | grind | (constructor <;> intro hh <;> grind))
    | (refine AC_loop (fun m σ => ∃ j : Nat, j ≤ kids.length ∧ m = kids.length - j ∧ σ.t 2 = .bx 2 0 ∧ σ.t 3 = .bx 3 0 ∧ σ.b 2 = some (.box [.sl 3 (p.types.map MType.enc), .sl 6 (p.nodes.map MNode.enc)]) ∧ σ.b 3 = some (.box [.s (.int .i64 k0), .s (.int .i64 at_), .s (.int .i64 n), .s (.string s), intsD kids, .sl 1 (pats.map MPat.enc)]) ∧
        σ.t 44 = intsD kids ∧ σ.t 45 = .s (.int .i64 kids.length) ∧ σ.t 46 = .s (.int .i64 j) ∧ ∀ x ∈ kids.take j, (decide (0 ≤ x) && decide (x < (p.nodes.length : Int))) = true) kids.length ⟨0, by omega, by omega, ?_⟩ ?_
       · simp only [go_sem, simprocAttr, Int.natCast_zero, hk0]
         all_goals simp
       · rintro m σ ⟨j, hj, rfl, g2, g3, gb2, gb3, g44, g45, g46, hno⟩ K' hK
         by_cases hlt : j < kids.length
         · have hx := getD_map iE kids j hlt
           (have hWf := WFx.mk (ai @hk0 <| ai @g2 <| ai @g3 <| ai @gb2 <| ai @gb3 <| ai @g44 <| ai @g45 <| ai @g46 <| ai @hx <| @iE_eq); repeat' (first | refine zS ?_ | exact zE | with_reducible apply And.intro | with_reducible exact zB0 | with_reducible refine zB fun hb => ?_ | exact zC | refine zT ?_ | fail))
           · refine sB ?_
             unfold nodeM
             rw [inB_bad hlt hb]; rfl
           · refine hK (kids.length - (j + 1)) _ (by omega) ⟨j + 1, by omega, rfl, ?_⟩
             simp only [go_sem, simprocAttr, g2, g3, gb2, gb3, g44, g45, Int.natCast_succ]
             exact take_more hlt hno (inB_one (by omega) (by omega))
         · obtain rfl : j = kids.length := by omega
           have hin : inB p.nodes kids = true := all_good hno
           clear hno hK
           (have hWf := WFx.mk (ai @hk0 <| ai @g2 <| ai @g3 <| ai @gb2 <| ai @gb3 <| ai @g44 <| ai @g45 <| @g46); repeat' (first | refine zS ?_ | exact zE | with_reducible apply And.intro | ((with_reducible apply q_CallG); refine zG (c_l04Kids _) ?_) | ((with_reducible apply q_CallQ); refine CallQ_mk (c_l04Kids _) ?_) | refine zK (c_specNameOk s hsz) ?_ | refine zK (c_l04Prim s) ?_ | with_reducible exact zB0 | with_reducible refine zB fun hb => ?_ | exact zC | refine zT ?_ | fail))
           all_goals
             (try clear hop hsp)
             (try clear hK)
             refine sB ?_
             rw [Bool.eq_iff_iff, nodeM_iff]
             have hpa0 := @pats0 pats
             simp only [kindI, ha, nameB] at *
             first | (simp_all; done) | grind | (constructor <;> intro hh <;> grind))
theorem l04Node_b (p : MProgram) (kind : Int) (hkd : (kind = 5 ∧ arI kind = 1) ∨ (kind = 7 ∧ arI kind = 2) ∨ (kind = 15 ∧ arI kind = 2)) (at_ n : Int) (s : ByteArray) (kids : List Int) (pats : List MPat) (hkl : kids.length ≤ 1048576) (hpl : pats.length ≤ 1048576) (hsz : s.size ≤ maxLen) (hop : ∀ q ∈ pats, q.ok) (hsp : smS MPat.sm pats) :
    FCon Tryz.prog 49 [.ag p.enc, .ag (MNode.mk kind at_ n s kids pats).enc] (fun r _ => r = .s (.bool (nodeM p.nodes ⟨kind, at_, n, s, kids, pats⟩))) := by
  obtain ⟨k0, hk0⟩ : ∃ k0 : Int, k0 = kind := ⟨_, rfl⟩
  rcases hkd with ⟨rfl, ha⟩ | ⟨rfl, ha⟩ | ⟨rfl, ha⟩
  all_goals
    refine FCon.intro (PMr [15, 24]) _ Tryz.func49 (by kernel_rfl) rfl _ Tryz.ntmps49 rfl [(15, 26, [], [], (lin [] [0, 1, 2, 3, 4, 5, 6, 7, 8, 9, 10, 11, 12, 13, 14, 15, 16, 17, 18, 19, 20, 21, 22, 23, 24, 25])), (24, 15, [], [], (lin [] [0, 1, 2, 3, 4, 5, 6, 7, 8, 9, 10, 11, 12, 13, 14])), (26, 11, [], [], (lin [] [0, 1, 2, 3, 4, 5, 6, 7, 8, 9, 10]))] (by decide +kernel) (by simp) (by simp) rfl (by first | rfl | simp only [go_sem]) ?_
    (have hWf := WFx.mk (ai @MNode.enc_eq <| ai @MProgram.enc_eq <| @ha); repeat' (first | refine zS ?_ | exact zE | with_reducible apply And.intro | with_reducible exact zB0 | with_reducible refine zB fun hb => ?_ | exact zC | refine zT ?_ | fail))
    all_goals first
    | (
       (try clear hop hsp)
       (try clear hK)
       refine sB ?_
       rw [Bool.eq_iff_iff, nodeM_iff]
       have hpa0 := @pats0 pats
       simp only [kindI, ha, nameB] at *
       first | (simp_all; done) | grind | (constructor <;> intro hh <;> grind))
    | (refine AC_loop (fun m σ => ∃ j : Nat, j ≤ kids.length ∧ m = kids.length - j ∧ σ.t 2 = .bx 2 0 ∧ σ.t 3 = .bx 3 0 ∧ σ.b 2 = some (.box [.sl 3 (p.types.map MType.enc), .sl 6 (p.nodes.map MNode.enc)]) ∧ σ.b 3 = some (.box [.s (.int .i64 k0), .s (.int .i64 at_), .s (.int .i64 n), .s (.string s), intsD kids, .sl 1 (pats.map MPat.enc)]) ∧
        σ.t 44 = intsD kids ∧ σ.t 45 = .s (.int .i64 kids.length) ∧ σ.t 46 = .s (.int .i64 j) ∧ ∀ x ∈ kids.take j, (decide (0 ≤ x) && decide (x < (p.nodes.length : Int))) = true) kids.length ⟨0, by omega, by omega, ?_⟩ ?_
       · simp only [go_sem, simprocAttr, Int.natCast_zero, hk0]
         all_goals simp
       · rintro m σ ⟨j, hj, rfl, g2, g3, gb2, gb3, g44, g45, g46, hno⟩ K' hK
         by_cases hlt : j < kids.length
         · have hx := getD_map iE kids j hlt
           (have hWf := WFx.mk (ai @hk0 <| ai @g2 <| ai @g3 <| ai @gb2 <| ai @gb3 <| ai @g44 <| ai @g45 <| ai @g46 <| ai @hx <| @iE_eq); repeat' (first | refine zS ?_ | exact zE | with_reducible apply And.intro | with_reducible exact zB0 | with_reducible refine zB fun hb => ?_ | exact zC | refine zT ?_ | fail))
           · refine sB ?_
             unfold nodeM
             rw [inB_bad hlt hb]; rfl
           · refine hK (kids.length - (j + 1)) _ (by omega) ⟨j + 1, by omega, rfl, ?_⟩
             simp only [go_sem, simprocAttr, g2, g3, gb2, gb3, g44, g45, Int.natCast_succ]
             exact take_more hlt hno (inB_one (by omega) (by omega))
         · obtain rfl : j = kids.length := by omega
           have hin : inB p.nodes kids = true := all_good hno
           clear hno hK
           (have hWf := WFx.mk (ai @hk0 <| ai @g2 <| ai @g3 <| ai @gb2 <| ai @gb3 <| ai @g44 <| ai @g45 <| @g46); repeat' (first | refine zS ?_ | exact zE | with_reducible apply And.intro | ((with_reducible apply q_CallG); refine zG (c_l04Kids _) ?_) | ((with_reducible apply q_CallQ); refine CallQ_mk (c_l04Kids _) ?_) | refine zK (c_specNameOk s hsz) ?_ | refine zK (c_l04Prim s) ?_ | with_reducible exact zB0 | with_reducible refine zB fun hb => ?_ | exact zC | refine zT ?_ | fail))
           all_goals
             (try clear hop hsp)
             (try clear hK)
             refine sB ?_
             rw [Bool.eq_iff_iff, nodeM_iff]
             have hpa0 := @pats0 pats
             simp only [kindI, ha, nameB] at *
             first | (simp_all; done) | grind | (constructor <;> intro hh <;> grind))
theorem l04Node_c (p : MProgram) (kind : Int) (hkd : (kind = 6 ∧ arI kind = 2) ∨ (kind = 9 ∧ arI kind = 3) ∨ (kind = 10 ∧ arI kind = 2)) (at_ n : Int) (s : ByteArray) (kids : List Int) (pats : List MPat) (hkl : kids.length ≤ 1048576) (hpl : pats.length ≤ 1048576) (hsz : s.size ≤ maxLen) (hop : ∀ q ∈ pats, q.ok) (hsp : smS MPat.sm pats) :
    FCon Tryz.prog 49 [.ag p.enc, .ag (MNode.mk kind at_ n s kids pats).enc] (fun r _ => r = .s (.bool (nodeM p.nodes ⟨kind, at_, n, s, kids, pats⟩))) := by
  obtain ⟨k0, hk0⟩ : ∃ k0 : Int, k0 = kind := ⟨_, rfl⟩
  rcases hkd with ⟨rfl, ha⟩ | ⟨rfl, ha⟩ | ⟨rfl, ha⟩
  all_goals
    refine FCon.intro (PMr [15, 24]) _ Tryz.func49 (by kernel_rfl) rfl _ Tryz.ntmps49 rfl [(15, 26, [], [], (lin [] [0, 1, 2, 3, 4, 5, 6, 7, 8, 9, 10, 11, 12, 13, 14, 15, 16, 17, 18, 19, 20, 21, 22, 23, 24, 25])), (24, 15, [], [], (lin [] [0, 1, 2, 3, 4, 5, 6, 7, 8, 9, 10, 11, 12, 13, 14])), (26, 11, [], [], (lin [] [0, 1, 2, 3, 4, 5, 6, 7, 8, 9, 10]))] (by decide +kernel) (by simp) (by simp) rfl (by first | rfl | simp only [go_sem]) ?_
    (have hWf := WFx.mk (ai @MNode.enc_eq <| ai @MProgram.enc_eq <| @ha); repeat' (first | refine zS ?_ | exact zE | with_reducible apply And.intro | with_reducible exact zB0 | with_reducible refine zB fun hb => ?_ | exact zC | refine zT ?_ | fail))
    all_goals first
    | (
       (try clear hop hsp)
       (try clear hK)
       refine sB ?_
       rw [Bool.eq_iff_iff, nodeM_iff]
       have hpa0 := @pats0 pats
       simp only [kindI, ha, nameB] at *
       first | (simp_all; done) | grind | (constructor <;> intro hh <;> grind))
    | (refine AC_loop (fun m σ => ∃ j : Nat, j ≤ kids.length ∧ m = kids.length - j ∧ σ.t 2 = .bx 2 0 ∧ σ.t 3 = .bx 3 0 ∧ σ.b 2 = some (.box [.sl 3 (p.types.map MType.enc), .sl 6 (p.nodes.map MNode.enc)]) ∧ σ.b 3 = some (.box [.s (.int .i64 k0), .s (.int .i64 at_), .s (.int .i64 n), .s (.string s), intsD kids, .sl 1 (pats.map MPat.enc)]) ∧
        σ.t 44 = intsD kids ∧ σ.t 45 = .s (.int .i64 kids.length) ∧ σ.t 46 = .s (.int .i64 j) ∧ ∀ x ∈ kids.take j, (decide (0 ≤ x) && decide (x < (p.nodes.length : Int))) = true) kids.length ⟨0, by omega, by omega, ?_⟩ ?_
       · simp only [go_sem, simprocAttr, Int.natCast_zero, hk0]
         all_goals simp
       · rintro m σ ⟨j, hj, rfl, g2, g3, gb2, gb3, g44, g45, g46, hno⟩ K' hK
         by_cases hlt : j < kids.length
         · have hx := getD_map iE kids j hlt
           (have hWf := WFx.mk (ai @hk0 <| ai @g2 <| ai @g3 <| ai @gb2 <| ai @gb3 <| ai @g44 <| ai @g45 <| ai @g46 <| ai @hx <| @iE_eq); repeat' (first | refine zS ?_ | exact zE | with_reducible apply And.intro | with_reducible exact zB0 | with_reducible refine zB fun hb => ?_ | exact zC | refine zT ?_ | fail))
           · refine sB ?_
             unfold nodeM
             rw [inB_bad hlt hb]; rfl
           · refine hK (kids.length - (j + 1)) _ (by omega) ⟨j + 1, by omega, rfl, ?_⟩
             simp only [go_sem, simprocAttr, g2, g3, gb2, gb3, g44, g45, Int.natCast_succ]
             exact take_more hlt hno (inB_one (by omega) (by omega))
         · obtain rfl : j = kids.length := by omega
           have hin : inB p.nodes kids = true := all_good hno
           clear hno hK
           (have hWf := WFx.mk (ai @hk0 <| ai @g2 <| ai @g3 <| ai @gb2 <| ai @gb3 <| ai @g44 <| ai @g45 <| @g46); repeat' (first | refine zS ?_ | exact zE | with_reducible apply And.intro | ((with_reducible apply q_CallG); refine zG (c_l04Kids _) ?_) | ((with_reducible apply q_CallQ); refine CallQ_mk (c_l04Kids _) ?_) | refine zK (c_specNameOk s hsz) ?_ | refine zK (c_l04Prim s) ?_ | with_reducible exact zB0 | with_reducible refine zB fun hb => ?_ | exact zC | refine zT ?_ | fail))
           all_goals
             (try clear hop hsp)
             (try clear hK)
             refine sB ?_
             rw [Bool.eq_iff_iff, nodeM_iff]
             have hpa0 := @pats0 pats
             simp only [kindI, ha, nameB] at *
             first | (simp_all; done) | grind | (constructor <;> intro hh <;> grind))
theorem l04Node_d (p : MProgram) (kind : Int) (hkd : (kind = 11 ∧ arI kind = 2) ∨ (kind = 12 ∧ arI kind = 0) ∨ (kind = 14 ∧ arI kind = 1)) (at_ n : Int) (s : ByteArray) (kids : List Int) (pats : List MPat) (hkl : kids.length ≤ 1048576) (hpl : pats.length ≤ 1048576) (hsz : s.size ≤ maxLen) (hop : ∀ q ∈ pats, q.ok) (hsp : smS MPat.sm pats) :
    FCon Tryz.prog 49 [.ag p.enc, .ag (MNode.mk kind at_ n s kids pats).enc] (fun r _ => r = .s (.bool (nodeM p.nodes ⟨kind, at_, n, s, kids, pats⟩))) := by
  obtain ⟨k0, hk0⟩ : ∃ k0 : Int, k0 = kind := ⟨_, rfl⟩
  rcases hkd with ⟨rfl, ha⟩ | ⟨rfl, ha⟩ | ⟨rfl, ha⟩
  all_goals
    refine FCon.intro (PMr [15, 24]) _ Tryz.func49 (by kernel_rfl) rfl _ Tryz.ntmps49 rfl [(15, 26, [], [], (lin [] [0, 1, 2, 3, 4, 5, 6, 7, 8, 9, 10, 11, 12, 13, 14, 15, 16, 17, 18, 19, 20, 21, 22, 23, 24, 25])), (24, 15, [], [], (lin [] [0, 1, 2, 3, 4, 5, 6, 7, 8, 9, 10, 11, 12, 13, 14])), (26, 11, [], [], (lin [] [0, 1, 2, 3, 4, 5, 6, 7, 8, 9, 10]))] (by decide +kernel) (by simp) (by simp) rfl (by first | rfl | simp only [go_sem]) ?_
    (have hWf := WFx.mk (ai @MNode.enc_eq <| ai @MProgram.enc_eq <| @ha); repeat' (first | refine zS ?_ | exact zE | with_reducible apply And.intro | with_reducible exact zB0 | with_reducible refine zB fun hb => ?_ | exact zC | refine zT ?_ | fail))
    all_goals first
    | (
       (try clear hop hsp)
       (try clear hK)
       refine sB ?_
       rw [Bool.eq_iff_iff, nodeM_iff]
       have hpa0 := @pats0 pats
       simp only [kindI, ha, nameB] at *
       first | (simp_all; done) | grind | (constructor <;> intro hh <;> grind))
    | (refine AC_loop (fun m σ => ∃ j : Nat, j ≤ kids.length ∧ m = kids.length - j ∧ σ.t 2 = .bx 2 0 ∧ σ.t 3 = .bx 3 0 ∧ σ.b 2 = some (.box [.sl 3 (p.types.map MType.enc), .sl 6 (p.nodes.map MNode.enc)]) ∧ σ.b 3 = some (.box [.s (.int .i64 k0), .s (.int .i64 at_), .s (.int .i64 n), .s (.string s), intsD kids, .sl 1 (pats.map MPat.enc)]) ∧
        σ.t 44 = intsD kids ∧ σ.t 45 = .s (.int .i64 kids.length) ∧ σ.t 46 = .s (.int .i64 j) ∧ ∀ x ∈ kids.take j, (decide (0 ≤ x) && decide (x < (p.nodes.length : Int))) = true) kids.length ⟨0, by omega, by omega, ?_⟩ ?_
       · simp only [go_sem, simprocAttr, Int.natCast_zero, hk0]
         all_goals simp
       · rintro m σ ⟨j, hj, rfl, g2, g3, gb2, gb3, g44, g45, g46, hno⟩ K' hK
         by_cases hlt : j < kids.length
         · have hx := getD_map iE kids j hlt
           (have hWf := WFx.mk (ai @hk0 <| ai @g2 <| ai @g3 <| ai @gb2 <| ai @gb3 <| ai @g44 <| ai @g45 <| ai @g46 <| ai @hx <| @iE_eq); repeat' (first | refine zS ?_ | exact zE | with_reducible apply And.intro | with_reducible exact zB0 | with_reducible refine zB fun hb => ?_ | exact zC | refine zT ?_ | fail))
           · refine sB ?_
             unfold nodeM
             rw [inB_bad hlt hb]; rfl
           · refine hK (kids.length - (j + 1)) _ (by omega) ⟨j + 1, by omega, rfl, ?_⟩
             simp only [go_sem, simprocAttr, g2, g3, gb2, gb3, g44, g45, Int.natCast_succ]
             exact take_more hlt hno (inB_one (by omega) (by omega))
         · obtain rfl : j = kids.length := by omega
           have hin : inB p.nodes kids = true := all_good hno
           clear hno hK
           (have hWf := WFx.mk (ai @hk0 <| ai @g2 <| ai @g3 <| ai @gb2 <| ai @gb3 <| ai @g44 <| ai @g45 <| @g46); repeat' (first | refine zS ?_ | exact zE | with_reducible apply And.intro | ((with_reducible apply q_CallG); refine zG (c_l04Kids _) ?_) | ((with_reducible apply q_CallQ); refine CallQ_mk (c_l04Kids _) ?_) | refine zK (c_specNameOk s hsz) ?_ | refine zK (c_l04Prim s) ?_ | with_reducible exact zB0 | with_reducible refine zB fun hb => ?_ | exact zC | refine zT ?_ | fail))
           all_goals
             (try clear hop hsp)
             (try clear hK)
             refine sB ?_
             rw [Bool.eq_iff_iff, nodeM_iff]
             have hpa0 := @pats0 pats
             simp only [kindI, ha, nameB] at *
             first | (simp_all; done) | grind | (constructor <;> intro hh <;> grind))
theorem l04Node_e (p : MProgram) (kind : Int) (hkd : (kind = 16 ∧ arI kind = 1) ∨ (kind = 17 ∧ arI kind = 1)) (at_ n : Int) (s : ByteArray) (kids : List Int) (pats : List MPat) (hkl : kids.length ≤ 1048576) (hpl : pats.length ≤ 1048576) (hsz : s.size ≤ maxLen) (hop : ∀ q ∈ pats, q.ok) (hsp : smS MPat.sm pats) :
    FCon Tryz.prog 49 [.ag p.enc, .ag (MNode.mk kind at_ n s kids pats).enc] (fun r _ => r = .s (.bool (nodeM p.nodes ⟨kind, at_, n, s, kids, pats⟩))) := by
  obtain ⟨k0, hk0⟩ : ∃ k0 : Int, k0 = kind := ⟨_, rfl⟩
  rcases hkd with ⟨rfl, ha⟩ | ⟨rfl, ha⟩
  all_goals
    refine FCon.intro (PMr [15, 24]) _ Tryz.func49 (by kernel_rfl) rfl _ Tryz.ntmps49 rfl [(15, 26, [], [], (lin [] [0, 1, 2, 3, 4, 5, 6, 7, 8, 9, 10, 11, 12, 13, 14, 15, 16, 17, 18, 19, 20, 21, 22, 23, 24, 25])), (24, 15, [], [], (lin [] [0, 1, 2, 3, 4, 5, 6, 7, 8, 9, 10, 11, 12, 13, 14])), (26, 11, [], [], (lin [] [0, 1, 2, 3, 4, 5, 6, 7, 8, 9, 10]))] (by decide +kernel) (by simp) (by simp) rfl (by first | rfl | simp only [go_sem]) ?_
    (have hWf := WFx.mk (ai @MNode.enc_eq <| ai @MProgram.enc_eq <| @ha); repeat' (first | refine zS ?_ | exact zE | with_reducible apply And.intro | with_reducible exact zB0 | with_reducible refine zB fun hb => ?_ | exact zC | refine zT ?_ | fail))
    all_goals first
    | (
       (try clear hop hsp)
       (try clear hK)
       refine sB ?_
       rw [Bool.eq_iff_iff, nodeM_iff]
       have hpa0 := @pats0 pats
       simp only [kindI, ha, nameB] at *
       first | (simp_all; done) | grind | (constructor <;> intro hh <;> grind))
    | (refine AC_loop (fun m σ => ∃ j : Nat, j ≤ kids.length ∧ m = kids.length - j ∧ σ.t 2 = .bx 2 0 ∧ σ.t 3 = .bx 3 0 ∧ σ.b 2 = some (.box [.sl 3 (p.types.map MType.enc), .sl 6 (p.nodes.map MNode.enc)]) ∧ σ.b 3 = some (.box [.s (.int .i64 k0), .s (.int .i64 at_), .s (.int .i64 n), .s (.string s), intsD kids, .sl 1 (pats.map MPat.enc)]) ∧
        σ.t 44 = intsD kids ∧ σ.t 45 = .s (.int .i64 kids.length) ∧ σ.t 46 = .s (.int .i64 j) ∧ ∀ x ∈ kids.take j, (decide (0 ≤ x) && decide (x < (p.nodes.length : Int))) = true) kids.length ⟨0, by omega, by omega, ?_⟩ ?_
       · simp only [go_sem, simprocAttr, Int.natCast_zero, hk0]
         all_goals simp
       · rintro m σ ⟨j, hj, rfl, g2, g3, gb2, gb3, g44, g45, g46, hno⟩ K' hK
         by_cases hlt : j < kids.length
         · have hx := getD_map iE kids j hlt
           (have hWf := WFx.mk (ai @hk0 <| ai @g2 <| ai @g3 <| ai @gb2 <| ai @gb3 <| ai @g44 <| ai @g45 <| ai @g46 <| ai @hx <| @iE_eq); repeat' (first | refine zS ?_ | exact zE | with_reducible apply And.intro | with_reducible exact zB0 | with_reducible refine zB fun hb => ?_ | exact zC | refine zT ?_ | fail))
           · refine sB ?_
             unfold nodeM
             rw [inB_bad hlt hb]; rfl
           · refine hK (kids.length - (j + 1)) _ (by omega) ⟨j + 1, by omega, rfl, ?_⟩
             simp only [go_sem, simprocAttr, g2, g3, gb2, gb3, g44, g45, Int.natCast_succ]
             exact take_more hlt hno (inB_one (by omega) (by omega))
         · obtain rfl : j = kids.length := by omega
           have hin : inB p.nodes kids = true := all_good hno
           clear hno hK
           (have hWf := WFx.mk (ai @hk0 <| ai @g2 <| ai @g3 <| ai @gb2 <| ai @gb3 <| ai @g44 <| ai @g45 <| @g46); repeat' (first | refine zS ?_ | exact zE | with_reducible apply And.intro | ((with_reducible apply q_CallG); refine zG (c_l04Kids _) ?_) | ((with_reducible apply q_CallQ); refine CallQ_mk (c_l04Kids _) ?_) | refine zK (c_specNameOk s hsz) ?_ | refine zK (c_l04Prim s) ?_ | with_reducible exact zB0 | with_reducible refine zB fun hb => ?_ | exact zC | refine zT ?_ | fail))
           all_goals
             (try clear hop hsp)
             (try clear hK)
             refine sB ?_
             rw [Bool.eq_iff_iff, nodeM_iff]
             have hpa0 := @pats0 pats
             simp only [kindI, ha, nameB] at *
             first | (simp_all; done) | grind | (constructor <;> intro hh <;> grind))
theorem l04Node_f (p : MProgram) (kind : Int) (hkd : (kind = 18 ∧ arI kind = 2) ∨ (kind = 19 ∧ arI kind = 2)) (at_ n : Int) (s : ByteArray) (kids : List Int) (pats : List MPat) (hkl : kids.length ≤ 1048576) (hpl : pats.length ≤ 1048576) (hsz : s.size ≤ maxLen) (hop : ∀ q ∈ pats, q.ok) (hsp : smS MPat.sm pats) :
    FCon Tryz.prog 49 [.ag p.enc, .ag (MNode.mk kind at_ n s kids pats).enc] (fun r _ => r = .s (.bool (nodeM p.nodes ⟨kind, at_, n, s, kids, pats⟩))) := by
  obtain ⟨k0, hk0⟩ : ∃ k0 : Int, k0 = kind := ⟨_, rfl⟩
  rcases hkd with ⟨rfl, ha⟩ | ⟨rfl, ha⟩
  all_goals
    refine FCon.intro (PMr [15, 24]) _ Tryz.func49 (by kernel_rfl) rfl _ Tryz.ntmps49 rfl [(15, 26, [], [], (lin [] [0, 1, 2, 3, 4, 5, 6, 7, 8, 9, 10, 11, 12, 13, 14, 15, 16, 17, 18, 19, 20, 21, 22, 23, 24, 25])), (24, 15, [], [], (lin [] [0, 1, 2, 3, 4, 5, 6, 7, 8, 9, 10, 11, 12, 13, 14])), (26, 11, [], [], (lin [] [0, 1, 2, 3, 4, 5, 6, 7, 8, 9, 10]))] (by decide +kernel) (by simp) (by simp) rfl (by first | rfl | simp only [go_sem]) ?_
    (have hWf := WFx.mk (ai @MNode.enc_eq <| ai @MProgram.enc_eq <| @ha); repeat' (first | refine zS ?_ | exact zE | with_reducible apply And.intro | with_reducible exact zB0 | with_reducible refine zB fun hb => ?_ | exact zC | refine zT ?_ | fail))
    all_goals first
    | (
       (try clear hop hsp)
       (try clear hK)
       refine sB ?_
       rw [Bool.eq_iff_iff, nodeM_iff]
       have hpa0 := @pats0 pats
       simp only [kindI, ha, nameB] at *
       first | (simp_all; done) | grind | (constructor <;> intro hh <;> grind))
    | (refine AC_loop (fun m σ => ∃ j : Nat, j ≤ kids.length ∧ m = kids.length - j ∧ σ.t 2 = .bx 2 0 ∧ σ.t 3 = .bx 3 0 ∧ σ.b 2 = some (.box [.sl 3 (p.types.map MType.enc), .sl 6 (p.nodes.map MNode.enc)]) ∧ σ.b 3 = some (.box [.s (.int .i64 k0), .s (.int .i64 at_), .s (.int .i64 n), .s (.string s), intsD kids, .sl 1 (pats.map MPat.enc)]) ∧
        σ.t 44 = intsD kids ∧ σ.t 45 = .s (.int .i64 kids.length) ∧ σ.t 46 = .s (.int .i64 j) ∧ ∀ x ∈ kids.take j, (decide (0 ≤ x) && decide (x < (p.nodes.length : Int))) = true) kids.length ⟨0, by omega, by omega, ?_⟩ ?_
       · simp only [go_sem, simprocAttr, Int.natCast_zero, hk0]
         all_goals simp
       · rintro m σ ⟨j, hj, rfl, g2, g3, gb2, gb3, g44, g45, g46, hno⟩ K' hK
         by_cases hlt : j < kids.length
         · have hx := getD_map iE kids j hlt
           (have hWf := WFx.mk (ai @hk0 <| ai @g2 <| ai @g3 <| ai @gb2 <| ai @gb3 <| ai @g44 <| ai @g45 <| ai @g46 <| ai @hx <| @iE_eq); repeat' (first | refine zS ?_ | exact zE | with_reducible apply And.intro | with_reducible exact zB0 | with_reducible refine zB fun hb => ?_ | exact zC | refine zT ?_ | fail))
           · refine sB ?_
             unfold nodeM
             rw [inB_bad hlt hb]; rfl
           · refine hK (kids.length - (j + 1)) _ (by omega) ⟨j + 1, by omega, rfl, ?_⟩
             simp only [go_sem, simprocAttr, g2, g3, gb2, gb3, g44, g45, Int.natCast_succ]
             exact take_more hlt hno (inB_one (by omega) (by omega))
         · obtain rfl : j = kids.length := by omega
           have hin : inB p.nodes kids = true := all_good hno
           clear hno hK
           (have hWf := WFx.mk (ai @hk0 <| ai @g2 <| ai @g3 <| ai @gb2 <| ai @gb3 <| ai @g44 <| ai @g45 <| @g46); repeat' (first | refine zS ?_ | exact zE | with_reducible apply And.intro | ((with_reducible apply q_CallG); refine zG (c_l04Kids _) ?_) | ((with_reducible apply q_CallQ); refine CallQ_mk (c_l04Kids _) ?_) | refine zK (c_specNameOk s hsz) ?_ | refine zK (c_l04Prim s) ?_ | with_reducible exact zB0 | with_reducible refine zB fun hb => ?_ | exact zC | refine zT ?_ | fail))
           all_goals
             (try clear hop hsp)
             (try clear hK)
             refine sB ?_
             rw [Bool.eq_iff_iff, nodeM_iff]
             have hpa0 := @pats0 pats
             simp only [kindI, ha, nameB] at *
             first | (simp_all; done) | grind | (constructor <;> intro hh <;> grind))
theorem l04Node_8 (p : MProgram) (kind : Int) (hkd : (kind = 8 ∧ arI kind = 2)) (at_ n : Int) (s : ByteArray) (kids : List Int) (pats : List MPat) (hkl : kids.length ≤ 1048576) (hpl : pats.length ≤ 1048576) (hsz : s.size ≤ maxLen) (hop : ∀ q ∈ pats, q.ok) (hsp : smS MPat.sm pats) :
    FCon Tryz.prog 49 [.ag p.enc, .ag (MNode.mk kind at_ n s kids pats).enc] (fun r _ => r = .s (.bool (nodeM p.nodes ⟨kind, at_, n, s, kids, pats⟩))) := by
  obtain ⟨k0, hk0⟩ : ∃ k0 : Int, k0 = kind := ⟨_, rfl⟩
  rcases hkd with ⟨rfl, ha⟩
  all_goals
    refine FCon.intro (PMr [15, 24]) _ Tryz.func49 (by kernel_rfl) rfl _ Tryz.ntmps49 rfl [(15, 26, [], [], (lin [] [0, 1, 2, 3, 4, 5, 6, 7, 8, 9, 10, 11, 12, 13, 14, 15, 16, 17, 18, 19, 20, 21, 22, 23, 24, 25])), (24, 15, [], [], (lin [] [0, 1, 2, 3, 4, 5, 6, 7, 8, 9, 10, 11, 12, 13, 14])), (26, 11, [], [], (lin [] [0, 1, 2, 3, 4, 5, 6, 7, 8, 9, 10]))] (by decide +kernel) (by simp) (by simp) rfl (by first | rfl | simp only [go_sem]) ?_
    (have hWf := WFx.mk (ai @MNode.enc_eq <| ai @MProgram.enc_eq <| @ha); repeat' (first | refine zS ?_ | exact zE | with_reducible apply And.intro | with_reducible exact zB0 | with_reducible refine zB fun hb => ?_ | exact zC | refine zT ?_ | fail))
    all_goals first
    | (
       (try clear hop hsp)
       (try clear hK)
       refine sB ?_
       rw [Bool.eq_iff_iff, nodeM_iff]
       have hpa0 := @pats0 pats
       simp only [kindI, ha, nameB] at *
       first | (simp_all; done) | grind | (constructor <;> intro hh <;> grind))
    | (refine AC_loop (fun m σ => ∃ j : Nat, j ≤ kids.length ∧ m = kids.length - j ∧ σ.t 2 = .bx 2 0 ∧ σ.t 3 = .bx 3 0 ∧ σ.b 2 = some (.box [.sl 3 (p.types.map MType.enc), .sl 6 (p.nodes.map MNode.enc)]) ∧ σ.b 3 = some (.box [.s (.int .i64 k0), .s (.int .i64 at_), .s (.int .i64 n), .s (.string s), intsD kids, .sl 1 (pats.map MPat.enc)]) ∧
        σ.t 44 = intsD kids ∧ σ.t 45 = .s (.int .i64 kids.length) ∧ σ.t 46 = .s (.int .i64 j) ∧ ∀ x ∈ kids.take j, (decide (0 ≤ x) && decide (x < (p.nodes.length : Int))) = true) kids.length ⟨0, by omega, by omega, ?_⟩ ?_
       · simp only [go_sem, simprocAttr, Int.natCast_zero, hk0]
         all_goals simp
       · rintro m σ ⟨j, hj, rfl, g2, g3, gb2, gb3, g44, g45, g46, hno⟩ K' hK
         by_cases hlt : j < kids.length
         · have hx := getD_map iE kids j hlt
           (have hWf := WFx.mk (ai @hk0 <| ai @g2 <| ai @g3 <| ai @gb2 <| ai @gb3 <| ai @g44 <| ai @g45 <| ai @g46 <| ai @hx <| @iE_eq); repeat' (first | refine zS ?_ | exact zE | with_reducible apply And.intro | with_reducible exact zB0 | with_reducible refine zB fun hb => ?_ | exact zC | refine zT ?_ | fail))
           · refine sB ?_
             unfold nodeM
             rw [inB_bad hlt hb]; rfl
           · refine hK (kids.length - (j + 1)) _ (by omega) ⟨j + 1, by omega, rfl, ?_⟩
             simp only [go_sem, simprocAttr, g2, g3, gb2, gb3, g44, g45, Int.natCast_succ]
             exact take_more hlt hno (inB_one (by omega) (by omega))
         · obtain rfl : j = kids.length := by omega
           have hin : inB p.nodes kids = true := all_good hno
           clear hno hK
           cases kids with
           | nil =>
             have hin : inB p.nodes [] = true := rfl
             (have hWf := WFx.mk (ai @hk0 <| ai @g2 <| ai @g3 <| ai @gb2 <| ai @gb3 <| ai @g44 <| ai @g45 <| @g46); repeat' (first | refine zS ?_ | exact zE | with_reducible apply And.intro | ((with_reducible apply q_CallG); refine zG (c_l04Kids _) ?_) | ((with_reducible apply q_CallQ); refine CallQ_mk (c_l04Kids _) ?_) | refine zK (c_specNameOk s hsz) ?_ | with_reducible exact zB0 | with_reducible refine zB fun hb => ?_ | exact zC | refine zT ?_ | fail))
             all_goals
               (try clear hop hsp)
               (try clear hK)
               refine sB ?_
               rw [Bool.eq_iff_iff, nodeM_iff]
               have hpa0 := @pats0 pats
               simp only [kindI, ha, nameB] at *
               first | (simp_all; done) | grind | (constructor <;> intro hh <;> grind)
           | cons z l =>
             have hz := List.all_eq_true.1 hin z (by simp)
             simp only [Bool.and_eq_true, decide_eq_true_eq] at hz
             obtain ⟨q, rfl⟩ : ∃ q : Nat, z = (q : Int) := ⟨z.toNat, by omega⟩
             have hq : q < p.nodes.length := by omega
             have hn := getD_map MNode.enc p.nodes q hq
             have hne := MNode.enc_eq p.nodes[q]
             have hkk := fun kd => kidK_at (nodes := p.nodes) (l := (q : Int) :: l) (by simp) hq rfl kd
             have h1k : (((l.length + 1 : Nat) : Int) == 1) = decide (l.length + 1 = 1) := by rw [Bool.eq_iff_iff]; simp only [beq_iff_eq, decide_eq_true_eq]; omega
             cases h2 : (((l.length + 1 : Nat) : Int) != 2)
             all_goals
               (have hWf := WFx.mk (ai @hk0 <| ai @g2 <| ai @g3 <| ai @gb2 <| ai @gb3 <| ai @g44 <| ai @g45 <| ai @g46 <| ai @hn <| ai @hne <| ai @iE_eq <| @h2); repeat' (first | refine zS ?_ | exact zE | with_reducible apply And.intro | ((with_reducible apply q_CallG); refine zG (c_l04Kids _) ?_) | ((with_reducible apply q_CallQ); refine CallQ_mk (c_l04Kids _) ?_) | refine zK (c_specNameOk s hsz) ?_ | with_reducible exact zB0 | with_reducible refine zB fun hb => ?_ | exact zC | refine zT ?_ | fail))
               all_goals
                 (try clear hop hsp)
                 (try clear hK)
                 refine sB ?_
                 rw [Bool.eq_iff_iff, nodeM_iff]
                 have hpa0 := @pats0 pats
                 simp only [kindI, ha, nameB, hkk, List.length_cons] at *
                 first | (simp_all; done) | grind | (constructor <;> intro hh <;> grind))
theorem l04Node_4 (p : MProgram) (kind : Int) (hkd : (kind = 4 ∧ arI kind = -1)) (at_ n : Int) (s : ByteArray) (kids : List Int) (pats : List MPat) (hkl : kids.length ≤ 1048576) (hpl : pats.length ≤ 1048576) (hsz : s.size ≤ maxLen) (hop : ∀ q ∈ pats, q.ok) (hsp : smS MPat.sm pats) :
    FCon Tryz.prog 49 [.ag p.enc, .ag (MNode.mk kind at_ n s kids pats).enc] (fun r _ => r = .s (.bool (nodeM p.nodes ⟨kind, at_, n, s, kids, pats⟩))) := by
  obtain ⟨k0, hk0⟩ : ∃ k0 : Int, k0 = kind := ⟨_, rfl⟩
  rcases hkd with ⟨rfl, ha⟩
  all_goals
    refine FCon.intro (PMr [15, 24]) _ Tryz.func49 (by kernel_rfl) rfl _ Tryz.ntmps49 rfl [(15, 26, [], [], (lin [] [0, 1, 2, 3, 4, 5, 6, 7, 8, 9, 10, 11, 12, 13, 14, 15, 16, 17, 18, 19, 20, 21, 22, 23, 24, 25])), (24, 15, [], [], (lin [] [0, 1, 2, 3, 4, 5, 6, 7, 8, 9, 10, 11, 12, 13, 14])), (26, 11, [], [], (lin [] [0, 1, 2, 3, 4, 5, 6, 7, 8, 9, 10]))] (by decide +kernel) (by simp) (by simp) rfl (by first | rfl | simp only [go_sem]) ?_
    (have hWf := WFx.mk (ai @MNode.enc_eq <| ai @MProgram.enc_eq <| @ha); repeat' (first | refine zS ?_ | exact zE | with_reducible apply And.intro | with_reducible exact zB0 | with_reducible refine zB fun hb => ?_ | exact zC | refine zT ?_ | fail))
    all_goals first
    | (
       (try clear hop hsp)
       (try clear hK)
       refine sB ?_
       rw [Bool.eq_iff_iff, nodeM_iff]
       have hpa0 := @pats0 pats
       simp only [kindI, ha, nameB] at *
       first | (simp_all; done) | grind | (constructor <;> intro hh <;> grind))
    | (refine AC_loop (fun m σ => ∃ j : Nat, j ≤ kids.length ∧ m = kids.length - j ∧ σ.t 2 = .bx 2 0 ∧ σ.t 3 = .bx 3 0 ∧ σ.b 2 = some (.box [.sl 3 (p.types.map MType.enc), .sl 6 (p.nodes.map MNode.enc)]) ∧ σ.b 3 = some (.box [.s (.int .i64 k0), .s (.int .i64 at_), .s (.int .i64 n), .s (.string s), intsD kids, .sl 1 (pats.map MPat.enc)]) ∧
        σ.t 44 = intsD kids ∧ σ.t 45 = .s (.int .i64 kids.length) ∧ σ.t 46 = .s (.int .i64 j) ∧ ∀ x ∈ kids.take j, (decide (0 ≤ x) && decide (x < (p.nodes.length : Int))) = true) kids.length ⟨0, by omega, by omega, ?_⟩ ?_
       · simp only [go_sem, simprocAttr, Int.natCast_zero, hk0]
         all_goals simp
       · rintro m σ ⟨j, hj, rfl, g2, g3, gb2, gb3, g44, g45, g46, hno⟩ K' hK
         by_cases hlt : j < kids.length
         · have hx := getD_map iE kids j hlt
           (have hWf := WFx.mk (ai @hk0 <| ai @g2 <| ai @g3 <| ai @gb2 <| ai @gb3 <| ai @g44 <| ai @g45 <| ai @g46 <| ai @hx <| @iE_eq); repeat' (first | refine zS ?_ | exact zE | with_reducible apply And.intro | with_reducible exact zB0 | with_reducible refine zB fun hb => ?_ | exact zC | refine zT ?_ | fail))
           · refine sB ?_
             unfold nodeM
             rw [inB_bad hlt hb]; rfl
           · refine hK (kids.length - (j + 1)) _ (by omega) ⟨j + 1, by omega, rfl, ?_⟩
             simp only [go_sem, simprocAttr, g2, g3, gb2, gb3, g44, g45, Int.natCast_succ]
             exact take_more hlt hno (inB_one (by omega) (by omega))
         · obtain rfl : j = kids.length := by omega
           have hin : inB p.nodes kids = true := all_good hno
           clear hno hK
           cases kids with
           | nil =>
             have hin : inB p.nodes [] = true := rfl
             cases hp0 : ((pats.length : Int) == 0)
             all_goals
               (have hWf := WFx.mk (ai @hk0 <| ai @g2 <| ai @g3 <| ai @gb2 <| ai @gb3 <| ai @g44 <| ai @g45 <| ai @g46 <| @hp0); repeat' (first | refine zS ?_ | exact zE | with_reducible apply And.intro | ((with_reducible apply q_CallG); refine zG (c_l04ConOk s hsz 0 _) ?_) | ((with_reducible apply q_CallQ); refine CallQ_mk (c_l04ConOk s hsz 0 _) ?_) | with_reducible exact zB0 | with_reducible refine zB fun hb => ?_ | exact zC | refine zT ?_ | fail))
               all_goals
                 (try clear hop hsp)
                 (try clear hK)
                 refine sB ?_
                 rw [Bool.eq_iff_iff, nodeM_iff]
                 have hpa0 := @pats0 pats
                 simp only [kindI, ha, nameB] at *
                 first | (simp_all; done) | grind | (constructor <;> intro hh <;> grind)
           | cons z l =>
             have hz := List.all_eq_true.1 hin z (by simp)
             simp only [Bool.and_eq_true, decide_eq_true_eq] at hz
             obtain ⟨q, rfl⟩ : ∃ q : Nat, z = (q : Int) := ⟨z.toNat, by omega⟩
             have hq : q < p.nodes.length := by omega
             have hn := getD_map MNode.enc p.nodes q hq
             have hne := MNode.enc_eq p.nodes[q]
             have hkk := fun kd => kidK_at (nodes := p.nodes) (l := (q : Int) :: l) (by simp) hq rfl kd
             have h1k : (((l.length + 1 : Nat) : Int) == 1) = decide (l.length + 1 = 1) := by rw [Bool.eq_iff_iff]; simp only [beq_iff_eq, decide_eq_true_eq]; omega
             cases hp0 : ((pats.length : Int) == 0)
             all_goals
               cases h1 : (((l.length + 1 : Nat) : Int) == 1)
               all_goals
                 (have hWf := WFx.mk (ai @hk0 <| ai @g2 <| ai @g3 <| ai @gb2 <| ai @gb3 <| ai @g44 <| ai @g45 <| ai @g46 <| ai @hn <| ai @hne <| ai @iE_eq <| ai @hp0 <| @h1); repeat' (first | refine zS ?_ | exact zE | with_reducible apply And.intro | ((with_reducible apply q_CallG); refine zG (c_l04ConOk s hsz (l.length + 1) _) ?_) | ((with_reducible apply q_CallQ); refine CallQ_mk (c_l04ConOk s hsz (l.length + 1) _) ?_) | with_reducible exact zB0 | with_reducible refine zB fun hb => ?_ | exact zC | refine zT ?_ | fail))
                 all_goals
                   (try clear hop hsp)
                   (try clear hK)
                   refine sB ?_
                   rw [Bool.eq_iff_iff, nodeM_iff]
                   have hpa0 := @pats0 pats
                   simp only [kindI, ha, nameB, hkk, List.length_cons, h1k] at *
                   first | (simp_all; done) | grind | (constructor <;> intro hh <;> grind))
theorem l04Node_13 (p : MProgram) (kind : Int) (hkd : (kind = 13 ∧ arI kind = -1)) (at_ n : Int) (s : ByteArray) (kids : List Int) (pats : List MPat) (hkl : kids.length ≤ 1048576) (hpl : pats.length ≤ 1048576) (hsz : s.size ≤ maxLen) (hop : ∀ q ∈ pats, q.ok) (hsp : smS MPat.sm pats) :
    FCon Tryz.prog 49 [.ag p.enc, .ag (MNode.mk kind at_ n s kids pats).enc] (fun r _ => r = .s (.bool (nodeM p.nodes ⟨kind, at_, n, s, kids, pats⟩))) := by
  obtain ⟨k0, hk0⟩ : ∃ k0 : Int, k0 = kind := ⟨_, rfl⟩
  rcases hkd with ⟨rfl, ha⟩
  all_goals
    refine FCon.intro (PMr [15, 24]) _ Tryz.func49 (by kernel_rfl) rfl _ Tryz.ntmps49 rfl [(15, 26, [], [], (lin [] [0, 1, 2, 3, 4, 5, 6, 7, 8, 9, 10, 11, 12, 13, 14, 15, 16, 17, 18, 19, 20, 21, 22, 23, 24, 25])), (24, 15, [], [], (lin [] [0, 1, 2, 3, 4, 5, 6, 7, 8, 9, 10, 11, 12, 13, 14])), (26, 11, [], [], (lin [] [0, 1, 2, 3, 4, 5, 6, 7, 8, 9, 10]))] (by decide +kernel) (by simp) (by simp) rfl (by first | rfl | simp only [go_sem]) ?_
    (have hWf := WFx.mk (ai @MNode.enc_eq <| ai @MProgram.enc_eq <| @ha); repeat' (first | refine zS ?_ | exact zE | with_reducible apply And.intro | with_reducible exact zB0 | with_reducible refine zB fun hb => ?_ | exact zC | refine zT ?_ | fail))
    all_goals first
    | (
       (try clear hop hsp)
       (try clear hK)
       refine sB ?_
       rw [Bool.eq_iff_iff, nodeM_iff]
       have hpa0 := @pats0 pats
       simp only [kindI, ha, nameB] at *
       first | (simp_all; done) | grind | (constructor <;> intro hh <;> grind))
    | (refine AC_loop (fun m σ => ∃ j : Nat, j ≤ kids.length ∧ m = kids.length - j ∧ σ.t 2 = .bx 2 0 ∧ σ.t 3 = .bx 3 0 ∧ σ.b 2 = some (.box [.sl 3 (p.types.map MType.enc), .sl 6 (p.nodes.map MNode.enc)]) ∧ σ.b 3 = some (.box [.s (.int .i64 k0), .s (.int .i64 at_), .s (.int .i64 n), .s (.string s), intsD kids, .sl 1 (pats.map MPat.enc)]) ∧
        σ.t 44 = intsD kids ∧ σ.t 45 = .s (.int .i64 kids.length) ∧ σ.t 46 = .s (.int .i64 j) ∧ ∀ x ∈ kids.take j, (decide (0 ≤ x) && decide (x < (p.nodes.length : Int))) = true) kids.length ⟨0, by omega, by omega, ?_⟩ ?_
       · simp only [go_sem, simprocAttr, Int.natCast_zero, hk0]
         all_goals simp
       · rintro m σ ⟨j, hj, rfl, g2, g3, gb2, gb3, g44, g45, g46, hno⟩ K' hK
         by_cases hlt : j < kids.length
         · have hx := getD_map iE kids j hlt
           (have hWf := WFx.mk (ai @hk0 <| ai @g2 <| ai @g3 <| ai @gb2 <| ai @gb3 <| ai @g44 <| ai @g45 <| ai @g46 <| ai @hx <| @iE_eq); repeat' (first | refine zS ?_ | exact zE | with_reducible apply And.intro | with_reducible exact zB0 | with_reducible refine zB fun hb => ?_ | exact zC | refine zT ?_ | fail))
           · refine sB ?_
             unfold nodeM
             rw [inB_bad hlt hb]; rfl
           · refine hK (kids.length - (j + 1)) _ (by omega) ⟨j + 1, by omega, rfl, ?_⟩
             simp only [go_sem, simprocAttr, g2, g3, gb2, gb3, g44, g45, Int.natCast_succ]
             exact take_more hlt hno (inB_one (by omega) (by omega))
         · obtain rfl : j = kids.length := by omega
           have hin : inB p.nodes kids = true := all_good hno
           clear hno hK
           (have hWf := WFx.mk (ai @hk0 <| ai @g2 <| ai @g3 <| ai @gb2 <| ai @gb3 <| ai @g44 <| ai @g45 <| @g46); repeat' (first | refine zS ?_ | exact zE | with_reducible apply And.intro | ((with_reducible apply q_CallG); refine zG (c_l04Kids _) ?_) | ((with_reducible apply q_CallQ); refine CallQ_mk (c_l04Kids _) ?_) | with_reducible exact zB0 | with_reducible refine zB fun hb => ?_ | exact zC | refine zT ?_ | fail))
           all_goals first
           | (
              (try clear hop hsp)
              (try clear hK)
              refine sB ?_
              rw [Bool.eq_iff_iff, nodeM_iff]
              have hpa0 := @pats0 pats
              simp only [kindI, ha, nameB] at *
              first | (simp_all; done) | grind | (constructor <;> intro hh <;> grind))
           | (refine AC_loop (fun m σ => ∃ j : Nat, j ≤ pats.length ∧ m = pats.length - j ∧ σ.t 2 = .bx 2 0 ∧ σ.t 3 = .bx 3 0 ∧ σ.b 2 = some (.box [.sl 3 (p.types.map MType.enc), .sl 6 (p.nodes.map MNode.enc)]) ∧ σ.b 3 = some (.box [.s (.int .i64 k0), .s (.int .i64 at_), .s (.int .i64 n), .s (.string s), intsD kids, .sl 1 (pats.map MPat.enc)]) ∧
               σ.t 158 = .sl 1 (pats.map MPat.enc) ∧ σ.t 159 = .s (.int .i64 pats.length) ∧ σ.t 160 = .s (.int .i64 j) ∧ ∀ q ∈ pats.take j, patM q.nodes = true) pats.length ⟨0, by omega, by omega, ?_⟩ ?_
              · simp only [go_sem, simprocAttr, hk0, g2, g3, gb2, gb3, Int.natCast_zero]
                all_goals simp
              · rintro m σ ⟨j, hj, rfl, e2, e3, eb2, eb3, e158, e159, e160, hno⟩ K'' hK
                by_cases hlt : j < pats.length
                · have hx := getD_map MPat.enc pats j hlt
                  have he := MPat.enc_eq pats[j]
                  have hpc := c_specPatOk pats[j].nodes (hop _ (List.getElem_mem hlt)) (hsp.2 _ (List.getElem_mem hlt))
                  cases hpm : patM pats[j].nodes with
                  | false =>
                    rw [hpm] at hpc
                    (have hWf := WFx.mk (ai @hk0 <| ai @e2 <| ai @e3 <| ai @eb2 <| ai @eb3 <| ai @e158 <| ai @e159 <| ai @e160 <| ai @hx <| @he); repeat' (first | refine zS ?_ | exact zE | with_reducible apply And.intro | refine zK (hpc) ?_ | with_reducible exact zB0 | with_reducible refine zB fun hb => ?_ | exact zC | refine zT ?_ | fail))
                    refine sB ?_
                    unfold nodeM
                    rw [all_bad (p := fun q : MPat => patM q.nodes) hlt hpm]; simp
                  | true =>
                    rw [hpm] at hpc
                    (have hWf := WFx.mk (ai @hk0 <| ai @e2 <| ai @e3 <| ai @eb2 <| ai @eb3 <| ai @e158 <| ai @e159 <| ai @e160 <| ai @hx <| @he); repeat' (first | refine zS ?_ | exact zE | with_reducible apply And.intro | refine zK (hpc) ?_ | with_reducible exact zB0 | with_reducible refine zB fun hb => ?_ | exact zC | refine zT ?_ | fail))
                    refine hK (pats.length - (j + 1)) _ (by omega) ⟨j + 1, by omega, rfl, ?_⟩
                    simp only [go_sem, simprocAttr, e2, e3, eb2, eb3, e158, e159, Int.natCast_succ]
                    exact take_more hlt hno hpm
                · obtain rfl : j = pats.length := by omega
                  have hpa := all_good (p := fun q : MPat => patM q.nodes) hno
                  clear hno hK
                  (have hWf := WFx.mk (ai @hk0 <| ai @e2 <| ai @e3 <| ai @eb2 <| ai @eb3 <| ai @e158 <| ai @e159 <| @e160); repeat' (first | refine zS ?_ | exact zE | with_reducible apply And.intro | with_reducible exact zB0 | with_reducible refine zB fun hb => ?_ | exact zC | refine zT ?_ | fail))
                  all_goals
                    (try clear hop hsp)
                    (try clear hK)
                    refine sB ?_
                    rw [Bool.eq_iff_iff, nodeM_iff]
                    have hpa0 := @pats0 pats
                    simp only [kindI, ha, nameB, hpa] at *
                    first | (simp_all; done) | grind | (constructor <;> intro hh <;> grind)))
end Go.Proofs.YtgcdbmcoendcdaaGreat
