/- Parts of the proof, laid together: HProgS, PoB, HChk, HChkS, ChkP. -/
import Derived.Deep.LoopGhost
import Derived.Deep.RegionLaw
import Derived.Deep.RegionWith
import Derived.Deep.Slices
import Derived.Laws.AppendOwn
import Derived.Laws.CopyRow
import Derived.Laws.Cover3
import Derived.Laws.EntriesVeiled
import Derived.Laws.Externs
import Derived.Laws.IdiomStrings
import Derived.Laws.StructEq
import Derived.Lib.AppendStr
import Derived.Lib.AppendZeros
import Derived.Lib.AppendZerosOnto
import Derived.Lib.Hide
import Derived.Lib.Overlaps
import Derived.ProofKit
import Derived.Test.YtmnokalddmlogaaGreatProg
import Derived.WalkKit
import Derived.Test.YtmnokalddmlogaaGreatP8
set_option linter.unusedSimpArgs false
set_option linter.unusedVariables false
set_option maxRecDepth 100000
set_option maxHeartbeats 8000000
namespace Go.Proofs.YtmnokalddmlogaaGreat
section
open Go.RowKit
theorem xC {nodes : List MNode} {x : MNode} : xO nodes x = true ↔ inB nodes x.kids = true /\ 0 <= x.at_ /\ (arI x.kind < 0 \/ (x.kids.length : Int) = arI x.kind) /\ (x.kind = 13 \/ (x.pats.length : Int) = 0) /\ (x.kind = 1 \/ x.kind = 3 \/ x.n = 0) /\ xE nodes x (xS x) = true /\ (x.pats.all fun q => patM q.nodes) = true := by
 unfold xO xY
 simp only [Bool.and_eq_true, Bool.or_eq_true, decide_eq_true_eq]
 constructor
 ·rintro ⟨⟨h1, ⟨⟨⟨h2, h3⟩, h4⟩, h5⟩, h6⟩, h7⟩
  exact ⟨h1, h2, h3, h4.imp id (fun q => by omega), by omega, h6, h7⟩
 ·rintro ⟨h1, h2, h3, h4, h5, h6, h7⟩
  exact ⟨⟨h1, ⟨⟨⟨h2, h3⟩, h4.imp id (fun q => by omega)⟩, by omega⟩, h6⟩, h7⟩
theorem pats0 {l : List MPat} (h : (l.length : Int) = 0) : (l.all fun q => patM q.nodes) = true := by
 have : l = [] := List.eq_nil_of_length_eq_zero (by omega)
 rw [this]; rfl
theorem wc {nodes : List MNode} {l : List Int} {k : Nat} (h : k < l.length) (hb : l[k] < 0 \/ (nodes.length : Int) <= l[k]) : inB nodes l = false := by
 refine yG h ?_
 rcases hb with q | q
 ·rw [decide_eq_false (by omega)]; rfl
 ·rw [decide_eq_false (by omega : ¬ l[k] < (nodes.length : Int))]; simp
theorem wd {nodes : List MNode} {x : Int} (h1 : 0 <= x) (h2 : x < (nodes.length : Int)) : (decide (0 <= x) && decide (x < (nodes.length : Int))) = true := by
 rw [decide_eq_true h1, decide_eq_true h2]; rfl
theorem YB (p : MProgram) (kind : Int) (hkd : (kind = 1 /\ arI kind = 0) \/ (kind = 2 /\ arI kind = 0) \/ (kind = 3 /\ arI kind = 0)) (at_ n : Int) (s : ByteArray) (kids : List Int) (pats : List MPat) (hkl : kids.length <= 1048576) (hpl : pats.length <= 1048576) (hsz : s.size <= maxLen) (hop : ∀ q ∈ pats, q.ok) (hsp : smS MPat.sm pats) :
  FCon Tryz.prog 127 [.ag p.enc, .ag (MNode.mk kind at_ n s kids pats).enc] (fun r _ => r = .s (.bool (xO p.nodes ⟨kind, at_, n, s, kids, pats⟩))) := by
 obtain ⟨k0, hk0⟩ : ∃ k0 : Int, k0 = kind := ⟨_, rfl⟩
 rcases hkd with ⟨rfl, ha⟩ | ⟨rfl, ha⟩ | ⟨rfl, ha⟩
 all_goals
  refine FI (PMr [15, 24]) Tryz.func127 Tryz.ntmps127 [(15, 26, [], [], (lin [] [0, 1, 2, 3, 4, 5, 6, 7, 8, 9, 10, 11, 12, 13, 14, 15, 16, 17, 18, 19, 20, 21, 22, 23, 24, 25])), (24, 15, [], [], (lin [] [0, 1, 2, 3, 4, 5, 6, 7, 8, 9, 10, 11, 12, 13, 14])), (26, 11, [], [], (lin [] [0, 1, 2, 3, 4, 5, 6, 7, 8, 9, 10]))] rfl rfl ?_
  (have hWf := w3 @MNode.enc_eq @MProgram.enc_eq @ha; repeat' (first | refine zS ?_ | refine zI ?_ ?_ | exact zF0 | refine zD fun hb => ?_ | exact zC | refine zT ?_ | fail))
  all_goals first
  | (
    (try clear hop hsp)
    (try clear hK)
    refine sB ?_
    rw [Bool.eq_iff_iff, xC]
    have hpa0 := @pats0 pats
    simp only [xE, ha, xS] at *
    first | (simp_all; done) | grind | (constructor <;> intro hh <;> grind))
  | (refine xd (fun m σ => ∃ j : Nat, j <= kids.length /\ m = kids.length - j /\ σ.t 2 = .bx 2 0 /\ σ.t 3 = .bx 3 0 /\ σ.b 2 = some (.box [.sl 3 (p.types.map MType.enc), .sl 6 (p.nodes.map MNode.enc)]) /\ σ.b 3 = some (.box [.s (.int .i64 k0), .s (.int .i64 at_), .s (.int .i64 n), .s (.string s), xJ kids, .sl 1 (pats.map MPat.enc)]) /\
     σ.t 44 = xJ kids /\ σ.t 45 = .s (.int .i64 kids.length) /\ σ.t 46 = .s (.int .i64 j) /\ ∀ x ∈ kids.take j, (decide (0 <= x) && decide (x < (p.nodes.length : Int))) = true) kids.length ⟨0, by omega, by omega, ?_⟩ ?_
     ·simp only [go_sem, simprocAttr, Int.natCast_zero, hk0]
      all_goals simp
     ·rintro m σ ⟨j, hj, rfl, g2, g3, gb2, gb3, g44, g45, g46, hno⟩ K' hK
      by_cases hlt : j < kids.length
      ·have hx := xb iE kids j hlt
       (have hWf := w10 @hk0 @g2 @g3 @gb2 @gb3 @g44 @g45 @g46 @hx @xn; repeat' (first | refine zS ?_ | refine zI ?_ ?_ | exact zF0 | refine zD fun hb => ?_ | exact zC | refine zT ?_ | fail))
       ·refine sB ?_
        unfold xO
        rw [wc hlt hb]; rfl
       ·refine hK (kids.length - (j + 1)) _ (by omega) ⟨j + 1, by omega, rfl, ?_⟩
        simp only [go_sem, simprocAttr, g2, g3, gb2, gb3, g44, g45, Int.natCast_succ]
        exact xG hlt hno (wd (by omega) (by omega))
      ·obtain rfl : j = kids.length := by omega
       have hin : inB p.nodes kids = true := xQ hno
       clear hno hK
       (have hWf := w8 @hk0 @g2 @g3 @gb2 @gb3 @g44 @g45 @g46; repeat' (first | refine zS ?_ | refine zI ?_ ?_ | ((with_reducible apply xc); refine zG (xK _) ?_) | ((with_reducible apply xf); refine xe (xK _) ?_) | refine zK (xA s hsz) ?_ | refine zK (wz s) ?_ | exact zF0 | refine zD fun hb => ?_ | exact zC | refine zT ?_ | fail))
       all_goals
        (try clear hop hsp)
        (try clear hK)
        refine sB ?_
        rw [Bool.eq_iff_iff, xC]
        have hpa0 := @pats0 pats
        simp only [xE, ha, xS] at *
        first | (simp_all; done) | grind | (constructor <;> intro hh <;> grind))
theorem YC (p : MProgram) (kind : Int) (hkd : (kind = 5 /\ arI kind = 1) \/ (kind = 7 /\ arI kind = 2) \/ (kind = 15 /\ arI kind = 2)) (at_ n : Int) (s : ByteArray) (kids : List Int) (pats : List MPat) (hkl : kids.length <= 1048576) (hpl : pats.length <= 1048576) (hsz : s.size <= maxLen) (hop : ∀ q ∈ pats, q.ok) (hsp : smS MPat.sm pats) :
  FCon Tryz.prog 127 [.ag p.enc, .ag (MNode.mk kind at_ n s kids pats).enc] (fun r _ => r = .s (.bool (xO p.nodes ⟨kind, at_, n, s, kids, pats⟩))) := by
 obtain ⟨k0, hk0⟩ : ∃ k0 : Int, k0 = kind := ⟨_, rfl⟩
 rcases hkd with ⟨rfl, ha⟩ | ⟨rfl, ha⟩ | ⟨rfl, ha⟩
 all_goals
  refine FI (PMr [15, 24]) Tryz.func127 Tryz.ntmps127 [(15, 26, [], [], (lin [] [0, 1, 2, 3, 4, 5, 6, 7, 8, 9, 10, 11, 12, 13, 14, 15, 16, 17, 18, 19, 20, 21, 22, 23, 24, 25])), (24, 15, [], [], (lin [] [0, 1, 2, 3, 4, 5, 6, 7, 8, 9, 10, 11, 12, 13, 14])), (26, 11, [], [], (lin [] [0, 1, 2, 3, 4, 5, 6, 7, 8, 9, 10]))] rfl rfl ?_
  (have hWf := w3 @MNode.enc_eq @MProgram.enc_eq @ha; repeat' (first | refine zS ?_ | refine zI ?_ ?_ | exact zF0 | refine zD fun hb => ?_ | exact zC | refine zT ?_ | fail))
  all_goals first
  | (
    (try clear hop hsp)
    (try clear hK)
    refine sB ?_
    rw [Bool.eq_iff_iff, xC]
    have hpa0 := @pats0 pats
    simp only [xE, ha, xS] at *
    first | (simp_all; done) | grind | (constructor <;> intro hh <;> grind))
  | (refine xd (fun m σ => ∃ j : Nat, j <= kids.length /\ m = kids.length - j /\ σ.t 2 = .bx 2 0 /\ σ.t 3 = .bx 3 0 /\ σ.b 2 = some (.box [.sl 3 (p.types.map MType.enc), .sl 6 (p.nodes.map MNode.enc)]) /\ σ.b 3 = some (.box [.s (.int .i64 k0), .s (.int .i64 at_), .s (.int .i64 n), .s (.string s), xJ kids, .sl 1 (pats.map MPat.enc)]) /\
     σ.t 44 = xJ kids /\ σ.t 45 = .s (.int .i64 kids.length) /\ σ.t 46 = .s (.int .i64 j) /\ ∀ x ∈ kids.take j, (decide (0 <= x) && decide (x < (p.nodes.length : Int))) = true) kids.length ⟨0, by omega, by omega, ?_⟩ ?_
     ·simp only [go_sem, simprocAttr, Int.natCast_zero, hk0]
      all_goals simp
     ·rintro m σ ⟨j, hj, rfl, g2, g3, gb2, gb3, g44, g45, g46, hno⟩ K' hK
      by_cases hlt : j < kids.length
      ·have hx := xb iE kids j hlt
       (have hWf := w10 @hk0 @g2 @g3 @gb2 @gb3 @g44 @g45 @g46 @hx @xn; repeat' (first | refine zS ?_ | refine zI ?_ ?_ | exact zF0 | refine zD fun hb => ?_ | exact zC | refine zT ?_ | fail))
       ·refine sB ?_
        unfold xO
        rw [wc hlt hb]; rfl
       ·refine hK (kids.length - (j + 1)) _ (by omega) ⟨j + 1, by omega, rfl, ?_⟩
        simp only [go_sem, simprocAttr, g2, g3, gb2, gb3, g44, g45, Int.natCast_succ]
        exact xG hlt hno (wd (by omega) (by omega))
      ·obtain rfl : j = kids.length := by omega
       have hin : inB p.nodes kids = true := xQ hno
       clear hno hK
       (have hWf := w8 @hk0 @g2 @g3 @gb2 @gb3 @g44 @g45 @g46; repeat' (first | refine zS ?_ | refine zI ?_ ?_ | ((with_reducible apply xc); refine zG (xK _) ?_) | ((with_reducible apply xf); refine xe (xK _) ?_) | refine zK (xA s hsz) ?_ | refine zK (wz s) ?_ | exact zF0 | refine zD fun hb => ?_ | exact zC | refine zT ?_ | fail))
       all_goals
        (try clear hop hsp)
        (try clear hK)
        refine sB ?_
        rw [Bool.eq_iff_iff, xC]
        have hpa0 := @pats0 pats
        simp only [xE, ha, xS] at *
        first | (simp_all; done) | grind | (constructor <;> intro hh <;> grind))
theorem YD (p : MProgram) (kind : Int) (hkd : (kind = 6 /\ arI kind = 2) \/ (kind = 9 /\ arI kind = 3) \/ (kind = 10 /\ arI kind = 2)) (at_ n : Int) (s : ByteArray) (kids : List Int) (pats : List MPat) (hkl : kids.length <= 1048576) (hpl : pats.length <= 1048576) (hsz : s.size <= maxLen) (hop : ∀ q ∈ pats, q.ok) (hsp : smS MPat.sm pats) :
  FCon Tryz.prog 127 [.ag p.enc, .ag (MNode.mk kind at_ n s kids pats).enc] (fun r _ => r = .s (.bool (xO p.nodes ⟨kind, at_, n, s, kids, pats⟩))) := by
 obtain ⟨k0, hk0⟩ : ∃ k0 : Int, k0 = kind := ⟨_, rfl⟩
 rcases hkd with ⟨rfl, ha⟩ | ⟨rfl, ha⟩ | ⟨rfl, ha⟩
 all_goals
  refine FI (PMr [15, 24]) Tryz.func127 Tryz.ntmps127 [(15, 26, [], [], (lin [] [0, 1, 2, 3, 4, 5, 6, 7, 8, 9, 10, 11, 12, 13, 14, 15, 16, 17, 18, 19, 20, 21, 22, 23, 24, 25])), (24, 15, [], [], (lin [] [0, 1, 2, 3, 4, 5, 6, 7, 8, 9, 10, 11, 12, 13, 14])), (26, 11, [], [], (lin [] [0, 1, 2, 3, 4, 5, 6, 7, 8, 9, 10]))] rfl rfl ?_
  (have hWf := w3 @MNode.enc_eq @MProgram.enc_eq @ha; repeat' (first | refine zS ?_ | refine zI ?_ ?_ | exact zF0 | refine zD fun hb => ?_ | exact zC | refine zT ?_ | fail))
  all_goals first
  | (
    (try clear hop hsp)
    (try clear hK)
    refine sB ?_
    rw [Bool.eq_iff_iff, xC]
    have hpa0 := @pats0 pats
    simp only [xE, ha, xS] at *
    first | (simp_all; done) | grind | (constructor <;> intro hh <;> grind))
  | (refine xd (fun m σ => ∃ j : Nat, j <= kids.length /\ m = kids.length - j /\ σ.t 2 = .bx 2 0 /\ σ.t 3 = .bx 3 0 /\ σ.b 2 = some (.box [.sl 3 (p.types.map MType.enc), .sl 6 (p.nodes.map MNode.enc)]) /\ σ.b 3 = some (.box [.s (.int .i64 k0), .s (.int .i64 at_), .s (.int .i64 n), .s (.string s), xJ kids, .sl 1 (pats.map MPat.enc)]) /\
     σ.t 44 = xJ kids /\ σ.t 45 = .s (.int .i64 kids.length) /\ σ.t 46 = .s (.int .i64 j) /\ ∀ x ∈ kids.take j, (decide (0 <= x) && decide (x < (p.nodes.length : Int))) = true) kids.length ⟨0, by omega, by omega, ?_⟩ ?_
     ·simp only [go_sem, simprocAttr, Int.natCast_zero, hk0]
      all_goals simp
     ·rintro m σ ⟨j, hj, rfl, g2, g3, gb2, gb3, g44, g45, g46, hno⟩ K' hK
      by_cases hlt : j < kids.length
      ·have hx := xb iE kids j hlt
       (have hWf := w10 @hk0 @g2 @g3 @gb2 @gb3 @g44 @g45 @g46 @hx @xn; repeat' (first | refine zS ?_ | refine zI ?_ ?_ | exact zF0 | refine zD fun hb => ?_ | exact zC | refine zT ?_ | fail))
       ·refine sB ?_
        unfold xO
        rw [wc hlt hb]; rfl
       ·refine hK (kids.length - (j + 1)) _ (by omega) ⟨j + 1, by omega, rfl, ?_⟩
        simp only [go_sem, simprocAttr, g2, g3, gb2, gb3, g44, g45, Int.natCast_succ]
        exact xG hlt hno (wd (by omega) (by omega))
      ·obtain rfl : j = kids.length := by omega
       have hin : inB p.nodes kids = true := xQ hno
       clear hno hK
       (have hWf := w8 @hk0 @g2 @g3 @gb2 @gb3 @g44 @g45 @g46; repeat' (first | refine zS ?_ | refine zI ?_ ?_ | ((with_reducible apply xc); refine zG (xK _) ?_) | ((with_reducible apply xf); refine xe (xK _) ?_) | refine zK (xA s hsz) ?_ | refine zK (wz s) ?_ | exact zF0 | refine zD fun hb => ?_ | exact zC | refine zT ?_ | fail))
       all_goals
        (try clear hop hsp)
        (try clear hK)
        refine sB ?_
        rw [Bool.eq_iff_iff, xC]
        have hpa0 := @pats0 pats
        simp only [xE, ha, xS] at *
        first | (simp_all; done) | grind | (constructor <;> intro hh <;> grind))
theorem YE (p : MProgram) (kind : Int) (hkd : (kind = 11 /\ arI kind = 2) \/ (kind = 12 /\ arI kind = 0) \/ (kind = 14 /\ arI kind = 1)) (at_ n : Int) (s : ByteArray) (kids : List Int) (pats : List MPat) (hkl : kids.length <= 1048576) (hpl : pats.length <= 1048576) (hsz : s.size <= maxLen) (hop : ∀ q ∈ pats, q.ok) (hsp : smS MPat.sm pats) :
  FCon Tryz.prog 127 [.ag p.enc, .ag (MNode.mk kind at_ n s kids pats).enc] (fun r _ => r = .s (.bool (xO p.nodes ⟨kind, at_, n, s, kids, pats⟩))) := by
 obtain ⟨k0, hk0⟩ : ∃ k0 : Int, k0 = kind := ⟨_, rfl⟩
 rcases hkd with ⟨rfl, ha⟩ | ⟨rfl, ha⟩ | ⟨rfl, ha⟩
 all_goals
  refine FI (PMr [15, 24]) Tryz.func127 Tryz.ntmps127 [(15, 26, [], [], (lin [] [0, 1, 2, 3, 4, 5, 6, 7, 8, 9, 10, 11, 12, 13, 14, 15, 16, 17, 18, 19, 20, 21, 22, 23, 24, 25])), (24, 15, [], [], (lin [] [0, 1, 2, 3, 4, 5, 6, 7, 8, 9, 10, 11, 12, 13, 14])), (26, 11, [], [], (lin [] [0, 1, 2, 3, 4, 5, 6, 7, 8, 9, 10]))] rfl rfl ?_
  (have hWf := w3 @MNode.enc_eq @MProgram.enc_eq @ha; repeat' (first | refine zS ?_ | refine zI ?_ ?_ | exact zF0 | refine zD fun hb => ?_ | exact zC | refine zT ?_ | fail))
  all_goals first
  | (
    (try clear hop hsp)
    (try clear hK)
    refine sB ?_
    rw [Bool.eq_iff_iff, xC]
    have hpa0 := @pats0 pats
    simp only [xE, ha, xS] at *
    first | (simp_all; done) | grind | (constructor <;> intro hh <;> grind))
  | (refine xd (fun m σ => ∃ j : Nat, j <= kids.length /\ m = kids.length - j /\ σ.t 2 = .bx 2 0 /\ σ.t 3 = .bx 3 0 /\ σ.b 2 = some (.box [.sl 3 (p.types.map MType.enc), .sl 6 (p.nodes.map MNode.enc)]) /\ σ.b 3 = some (.box [.s (.int .i64 k0), .s (.int .i64 at_), .s (.int .i64 n), .s (.string s), xJ kids, .sl 1 (pats.map MPat.enc)]) /\
     σ.t 44 = xJ kids /\ σ.t 45 = .s (.int .i64 kids.length) /\ σ.t 46 = .s (.int .i64 j) /\ ∀ x ∈ kids.take j, (decide (0 <= x) && decide (x < (p.nodes.length : Int))) = true) kids.length ⟨0, by omega, by omega, ?_⟩ ?_
     ·simp only [go_sem, simprocAttr, Int.natCast_zero, hk0]
      all_goals simp
     ·rintro m σ ⟨j, hj, rfl, g2, g3, gb2, gb3, g44, g45, g46, hno⟩ K' hK
      by_cases hlt : j < kids.length
      ·have hx := xb iE kids j hlt
       (have hWf := w10 @hk0 @g2 @g3 @gb2 @gb3 @g44 @g45 @g46 @hx @xn; repeat' (first | refine zS ?_ | refine zI ?_ ?_ | exact zF0 | refine zD fun hb => ?_ | exact zC | refine zT ?_ | fail))
       ·refine sB ?_
        unfold xO
        rw [wc hlt hb]; rfl
       ·refine hK (kids.length - (j + 1)) _ (by omega) ⟨j + 1, by omega, rfl, ?_⟩
        simp only [go_sem, simprocAttr, g2, g3, gb2, gb3, g44, g45, Int.natCast_succ]
        exact xG hlt hno (wd (by omega) (by omega))
      ·obtain rfl : j = kids.length := by omega
       have hin : inB p.nodes kids = true := xQ hno
       clear hno hK
       (have hWf := w8 @hk0 @g2 @g3 @gb2 @gb3 @g44 @g45 @g46; repeat' (first | refine zS ?_ | refine zI ?_ ?_ | ((with_reducible apply xc); refine zG (xK _) ?_) | ((with_reducible apply xf); refine xe (xK _) ?_) | refine zK (xA s hsz) ?_ | refine zK (wz s) ?_ | exact zF0 | refine zD fun hb => ?_ | exact zC | refine zT ?_ | fail))
       all_goals
        (try clear hop hsp)
        (try clear hK)
        refine sB ?_
        rw [Bool.eq_iff_iff, xC]
        have hpa0 := @pats0 pats
        simp only [xE, ha, xS] at *
        first | (simp_all; done) | grind | (constructor <;> intro hh <;> grind))
theorem UT (p : MProgram) (kind : Int) (hkd : (kind = 16 /\ arI kind = 1) \/ (kind = 17 /\ arI kind = 1)) (at_ n : Int) (s : ByteArray) (kids : List Int) (pats : List MPat) (hkl : kids.length <= 1048576) (hpl : pats.length <= 1048576) (hsz : s.size <= maxLen) (hop : ∀ q ∈ pats, q.ok) (hsp : smS MPat.sm pats) :
  FCon Tryz.prog 127 [.ag p.enc, .ag (MNode.mk kind at_ n s kids pats).enc] (fun r _ => r = .s (.bool (xO p.nodes ⟨kind, at_, n, s, kids, pats⟩))) := by
 obtain ⟨k0, hk0⟩ : ∃ k0 : Int, k0 = kind := ⟨_, rfl⟩
 rcases hkd with ⟨rfl, ha⟩ | ⟨rfl, ha⟩
 all_goals
  refine FI (PMr [15, 24]) Tryz.func127 Tryz.ntmps127 [(15, 26, [], [], (lin [] [0, 1, 2, 3, 4, 5, 6, 7, 8, 9, 10, 11, 12, 13, 14, 15, 16, 17, 18, 19, 20, 21, 22, 23, 24, 25])), (24, 15, [], [], (lin [] [0, 1, 2, 3, 4, 5, 6, 7, 8, 9, 10, 11, 12, 13, 14])), (26, 11, [], [], (lin [] [0, 1, 2, 3, 4, 5, 6, 7, 8, 9, 10]))] rfl rfl ?_
  (have hWf := w3 @MNode.enc_eq @MProgram.enc_eq @ha; repeat' (first | refine zS ?_ | refine zI ?_ ?_ | exact zF0 | refine zD fun hb => ?_ | exact zC | refine zT ?_ | fail))
  all_goals first
  | (
    (try clear hop hsp)
    (try clear hK)
    refine sB ?_
    rw [Bool.eq_iff_iff, xC]
    have hpa0 := @pats0 pats
    simp only [xE, ha, xS] at *
    first | (simp_all; done) | grind | (constructor <;> intro hh <;> grind))
  | (refine xd (fun m σ => ∃ j : Nat, j <= kids.length /\ m = kids.length - j /\ σ.t 2 = .bx 2 0 /\ σ.t 3 = .bx 3 0 /\ σ.b 2 = some (.box [.sl 3 (p.types.map MType.enc), .sl 6 (p.nodes.map MNode.enc)]) /\ σ.b 3 = some (.box [.s (.int .i64 k0), .s (.int .i64 at_), .s (.int .i64 n), .s (.string s), xJ kids, .sl 1 (pats.map MPat.enc)]) /\
     σ.t 44 = xJ kids /\ σ.t 45 = .s (.int .i64 kids.length) /\ σ.t 46 = .s (.int .i64 j) /\ ∀ x ∈ kids.take j, (decide (0 <= x) && decide (x < (p.nodes.length : Int))) = true) kids.length ⟨0, by omega, by omega, ?_⟩ ?_
     ·simp only [go_sem, simprocAttr, Int.natCast_zero, hk0]
      all_goals simp
     ·rintro m σ ⟨j, hj, rfl, g2, g3, gb2, gb3, g44, g45, g46, hno⟩ K' hK
      by_cases hlt : j < kids.length
      ·have hx := xb iE kids j hlt
       (have hWf := w10 @hk0 @g2 @g3 @gb2 @gb3 @g44 @g45 @g46 @hx @xn; repeat' (first | refine zS ?_ | refine zI ?_ ?_ | exact zF0 | refine zD fun hb => ?_ | exact zC | refine zT ?_ | fail))
       ·refine sB ?_
        unfold xO
        rw [wc hlt hb]; rfl
       ·refine hK (kids.length - (j + 1)) _ (by omega) ⟨j + 1, by omega, rfl, ?_⟩
        simp only [go_sem, simprocAttr, g2, g3, gb2, gb3, g44, g45, Int.natCast_succ]
        exact xG hlt hno (wd (by omega) (by omega))
      ·obtain rfl : j = kids.length := by omega
       have hin : inB p.nodes kids = true := xQ hno
       clear hno hK
       (have hWf := w8 @hk0 @g2 @g3 @gb2 @gb3 @g44 @g45 @g46; repeat' (first | refine zS ?_ | refine zI ?_ ?_ | ((with_reducible apply xc); refine zG (xK _) ?_) | ((with_reducible apply xf); refine xe (xK _) ?_) | refine zK (xA s hsz) ?_ | refine zK (wz s) ?_ | exact zF0 | refine zD fun hb => ?_ | exact zC | refine zT ?_ | fail))
       all_goals
        (try clear hop hsp)
        (try clear hK)
        refine sB ?_
        rw [Bool.eq_iff_iff, xC]
        have hpa0 := @pats0 pats
        simp only [xE, ha, xS] at *
        first | (simp_all; done) | grind | (constructor <;> intro hh <;> grind))
theorem UU (p : MProgram) (kind : Int) (hkd : (kind = 18 /\ arI kind = 2) \/ (kind = 19 /\ arI kind = 2)) (at_ n : Int) (s : ByteArray) (kids : List Int) (pats : List MPat) (hkl : kids.length <= 1048576) (hpl : pats.length <= 1048576) (hsz : s.size <= maxLen) (hop : ∀ q ∈ pats, q.ok) (hsp : smS MPat.sm pats) :
  FCon Tryz.prog 127 [.ag p.enc, .ag (MNode.mk kind at_ n s kids pats).enc] (fun r _ => r = .s (.bool (xO p.nodes ⟨kind, at_, n, s, kids, pats⟩))) := by
 obtain ⟨k0, hk0⟩ : ∃ k0 : Int, k0 = kind := ⟨_, rfl⟩
 rcases hkd with ⟨rfl, ha⟩ | ⟨rfl, ha⟩
 all_goals
  refine FI (PMr [15, 24]) Tryz.func127 Tryz.ntmps127 [(15, 26, [], [], (lin [] [0, 1, 2, 3, 4, 5, 6, 7, 8, 9, 10, 11, 12, 13, 14, 15, 16, 17, 18, 19, 20, 21, 22, 23, 24, 25])), (24, 15, [], [], (lin [] [0, 1, 2, 3, 4, 5, 6, 7, 8, 9, 10, 11, 12, 13, 14])), (26, 11, [], [], (lin [] [0, 1, 2, 3, 4, 5, 6, 7, 8, 9, 10]))] rfl rfl ?_
  (have hWf := w3 @MNode.enc_eq @MProgram.enc_eq @ha; repeat' (first | refine zS ?_ | refine zI ?_ ?_ | exact zF0 | refine zD fun hb => ?_ | exact zC | refine zT ?_ | fail))
  all_goals first
  | (
    (try clear hop hsp)
    (try clear hK)
    refine sB ?_
    rw [Bool.eq_iff_iff, xC]
    have hpa0 := @pats0 pats
    simp only [xE, ha, xS] at *
    first | (simp_all; done) | grind | (constructor <;> intro hh <;> grind))
  | (refine xd (fun m σ => ∃ j : Nat, j <= kids.length /\ m = kids.length - j /\ σ.t 2 = .bx 2 0 /\ σ.t 3 = .bx 3 0 /\ σ.b 2 = some (.box [.sl 3 (p.types.map MType.enc), .sl 6 (p.nodes.map MNode.enc)]) /\ σ.b 3 = some (.box [.s (.int .i64 k0), .s (.int .i64 at_), .s (.int .i64 n), .s (.string s), xJ kids, .sl 1 (pats.map MPat.enc)]) /\
     σ.t 44 = xJ kids /\ σ.t 45 = .s (.int .i64 kids.length) /\ σ.t 46 = .s (.int .i64 j) /\ ∀ x ∈ kids.take j, (decide (0 <= x) && decide (x < (p.nodes.length : Int))) = true) kids.length ⟨0, by omega, by omega, ?_⟩ ?_
     ·simp only [go_sem, simprocAttr, Int.natCast_zero, hk0]
      all_goals simp
     ·rintro m σ ⟨j, hj, rfl, g2, g3, gb2, gb3, g44, g45, g46, hno⟩ K' hK
      by_cases hlt : j < kids.length
      ·have hx := xb iE kids j hlt
       (have hWf := w10 @hk0 @g2 @g3 @gb2 @gb3 @g44 @g45 @g46 @hx @xn; repeat' (first | refine zS ?_ | refine zI ?_ ?_ | exact zF0 | refine zD fun hb => ?_ | exact zC | refine zT ?_ | fail))
       ·refine sB ?_
        unfold xO
        rw [wc hlt hb]; rfl
       ·refine hK (kids.length - (j + 1)) _ (by omega) ⟨j + 1, by omega, rfl, ?_⟩
        simp only [go_sem, simprocAttr, g2, g3, gb2, gb3, g44, g45, Int.natCast_succ]
        exact xG hlt hno (wd (by omega) (by omega))
      ·obtain rfl : j = kids.length := by omega
       have hin : inB p.nodes kids = true := xQ hno
       clear hno hK
       (have hWf := w8 @hk0 @g2 @g3 @gb2 @gb3 @g44 @g45 @g46; repeat' (first | refine zS ?_ | refine zI ?_ ?_ | ((with_reducible apply xc); refine zG (xK _) ?_) | ((with_reducible apply xf); refine xe (xK _) ?_) | refine zK (xA s hsz) ?_ | refine zK (wz s) ?_ | exact zF0 | refine zD fun hb => ?_ | exact zC | refine zT ?_ | fail))
       all_goals
        (try clear hop hsp)
        (try clear hK)
        refine sB ?_
        rw [Bool.eq_iff_iff, xC]
        have hpa0 := @pats0 pats
        simp only [xE, ha, xS] at *
        first | (simp_all; done) | grind | (constructor <;> intro hh <;> grind))
theorem l04Node_8 (p : MProgram) (kind : Int) (hkd : (kind = 8 /\ arI kind = 2)) (at_ n : Int) (s : ByteArray) (kids : List Int) (pats : List MPat) (hkl : kids.length <= 1048576) (hpl : pats.length <= 1048576) (hsz : s.size <= maxLen) (hop : ∀ q ∈ pats, q.ok) (hsp : smS MPat.sm pats) :
  FCon Tryz.prog 127 [.ag p.enc, .ag (MNode.mk kind at_ n s kids pats).enc] (fun r _ => r = .s (.bool (xO p.nodes ⟨kind, at_, n, s, kids, pats⟩))) := by
 obtain ⟨k0, hk0⟩ : ∃ k0 : Int, k0 = kind := ⟨_, rfl⟩
 rcases hkd with ⟨rfl, ha⟩
 all_goals
  refine FI (PMr [15, 24]) Tryz.func127 Tryz.ntmps127 [(15, 26, [], [], (lin [] [0, 1, 2, 3, 4, 5, 6, 7, 8, 9, 10, 11, 12, 13, 14, 15, 16, 17, 18, 19, 20, 21, 22, 23, 24, 25])), (24, 15, [], [], (lin [] [0, 1, 2, 3, 4, 5, 6, 7, 8, 9, 10, 11, 12, 13, 14])), (26, 11, [], [], (lin [] [0, 1, 2, 3, 4, 5, 6, 7, 8, 9, 10]))] rfl rfl ?_
  (have hWf := w3 @MNode.enc_eq @MProgram.enc_eq @ha; repeat' (first | refine zS ?_ | refine zI ?_ ?_ | exact zF0 | refine zD fun hb => ?_ | exact zC | refine zT ?_ | fail))
  all_goals first
  | (
    (try clear hop hsp)
    (try clear hK)
    refine sB ?_
    rw [Bool.eq_iff_iff, xC]
    have hpa0 := @pats0 pats
    simp only [xE, ha, xS] at *
    first | (simp_all; done) | grind | (constructor <;> intro hh <;> grind))
  | (refine xd (fun m σ => ∃ j : Nat, j <= kids.length /\ m = kids.length - j /\ σ.t 2 = .bx 2 0 /\ σ.t 3 = .bx 3 0 /\ σ.b 2 = some (.box [.sl 3 (p.types.map MType.enc), .sl 6 (p.nodes.map MNode.enc)]) /\ σ.b 3 = some (.box [.s (.int .i64 k0), .s (.int .i64 at_), .s (.int .i64 n), .s (.string s), xJ kids, .sl 1 (pats.map MPat.enc)]) /\
     σ.t 44 = xJ kids /\ σ.t 45 = .s (.int .i64 kids.length) /\ σ.t 46 = .s (.int .i64 j) /\ ∀ x ∈ kids.take j, (decide (0 <= x) && decide (x < (p.nodes.length : Int))) = true) kids.length ⟨0, by omega, by omega, ?_⟩ ?_
     ·simp only [go_sem, simprocAttr, Int.natCast_zero, hk0]
      all_goals simp
     ·rintro m σ ⟨j, hj, rfl, g2, g3, gb2, gb3, g44, g45, g46, hno⟩ K' hK
      by_cases hlt : j < kids.length
      ·have hx := xb iE kids j hlt
       (have hWf := w10 @hk0 @g2 @g3 @gb2 @gb3 @g44 @g45 @g46 @hx @xn; repeat' (first | refine zS ?_ | refine zI ?_ ?_ | exact zF0 | refine zD fun hb => ?_ | exact zC | refine zT ?_ | fail))
       ·refine sB ?_
        unfold xO
        rw [wc hlt hb]; rfl
       ·refine hK (kids.length - (j + 1)) _ (by omega) ⟨j + 1, by omega, rfl, ?_⟩
        simp only [go_sem, simprocAttr, g2, g3, gb2, gb3, g44, g45, Int.natCast_succ]
        exact xG hlt hno (wd (by omega) (by omega))
      ·obtain rfl : j = kids.length := by omega
       have hin : inB p.nodes kids = true := xQ hno
       clear hno hK
       cases kids with
       | nil =>
        have hin : inB p.nodes [] = true := rfl
        (have hWf := w8 @hk0 @g2 @g3 @gb2 @gb3 @g44 @g45 @g46; repeat' (first | refine zS ?_ | refine zI ?_ ?_ | ((with_reducible apply xc); refine zG (xK _) ?_) | ((with_reducible apply xf); refine xe (xK _) ?_) | refine zK (xA s hsz) ?_ | exact zF0 | refine zD fun hb => ?_ | exact zC | refine zT ?_ | fail))
        all_goals
         (try clear hop hsp)
         (try clear hK)
         refine sB ?_
         rw [Bool.eq_iff_iff, xC]
         have hpa0 := @pats0 pats
         simp only [xE, ha, xS] at *
         first | (simp_all; done) | grind | (constructor <;> intro hh <;> grind)
       | cons z l =>
        have hz := List.all_eq_true.1 hin z (by simp)
        simp only [Bool.and_eq_true, decide_eq_true_eq] at hz
        obtain ⟨q, rfl⟩ : ∃ q : Nat, z = (q : Int) := ⟨z.toNat, by omega⟩
        have hq : q < p.nodes.length := by omega
        have hn := xb MNode.enc p.nodes q hq
        have hne := MNode.enc_eq p.nodes[q]
        have hkk := fun kd => Y4 (nodes := p.nodes) (l := (q : Int) :: l) (by simp) hq rfl kd
        have h1k : (((l.length + 1 : Nat) : Int) == 1) = decide (l.length + 1 = 1) := by rw [Bool.eq_iff_iff]; simp only [beq_iff_eq, decide_eq_true_eq]; omega
        cases h2 : (((l.length + 1 : Nat) : Int) != 2)
        all_goals
         (have hWf := w10 @hk0 @g2 @g3 @gb2 @gb3 @g44 @g45 @g46 @hn (ai @hne <| ai @xn <| @h2); repeat' (first | refine zS ?_ | refine zI ?_ ?_ | ((with_reducible apply xc); refine zG (xK _) ?_) | ((with_reducible apply xf); refine xe (xK _) ?_) | refine zK (xA s hsz) ?_ | exact zF0 | refine zD fun hb => ?_ | exact zC | refine zT ?_ | fail))
         all_goals
          (try clear hop hsp)
          (try clear hK)
          refine sB ?_
          rw [Bool.eq_iff_iff, xC]
          have hpa0 := @pats0 pats
          simp only [xE, ha, xS, hkk, List.length_cons] at *
          first | (simp_all; done) | grind | (constructor <;> intro hh <;> grind))
theorem l04Node_4 (p : MProgram) (kind : Int) (hkd : (kind = 4 /\ arI kind = -1)) (at_ n : Int) (s : ByteArray) (kids : List Int) (pats : List MPat) (hkl : kids.length <= 1048576) (hpl : pats.length <= 1048576) (hsz : s.size <= maxLen) (hop : ∀ q ∈ pats, q.ok) (hsp : smS MPat.sm pats) :
  FCon Tryz.prog 127 [.ag p.enc, .ag (MNode.mk kind at_ n s kids pats).enc] (fun r _ => r = .s (.bool (xO p.nodes ⟨kind, at_, n, s, kids, pats⟩))) := by
 obtain ⟨k0, hk0⟩ : ∃ k0 : Int, k0 = kind := ⟨_, rfl⟩
 rcases hkd with ⟨rfl, ha⟩
 all_goals
  refine FI (PMr [15, 24]) Tryz.func127 Tryz.ntmps127 [(15, 26, [], [], (lin [] [0, 1, 2, 3, 4, 5, 6, 7, 8, 9, 10, 11, 12, 13, 14, 15, 16, 17, 18, 19, 20, 21, 22, 23, 24, 25])), (24, 15, [], [], (lin [] [0, 1, 2, 3, 4, 5, 6, 7, 8, 9, 10, 11, 12, 13, 14])), (26, 11, [], [], (lin [] [0, 1, 2, 3, 4, 5, 6, 7, 8, 9, 10]))] rfl rfl ?_
  (have hWf := w3 @MNode.enc_eq @MProgram.enc_eq @ha; repeat' (first | refine zS ?_ | refine zI ?_ ?_ | exact zF0 | refine zD fun hb => ?_ | exact zC | refine zT ?_ | fail))
  all_goals first
  | (
    (try clear hop hsp)
    (try clear hK)
    refine sB ?_
    rw [Bool.eq_iff_iff, xC]
    have hpa0 := @pats0 pats
    simp only [xE, ha, xS] at *
    first | (simp_all; done) | grind | (constructor <;> intro hh <;> grind))
  | (refine xd (fun m σ => ∃ j : Nat, j <= kids.length /\ m = kids.length - j /\ σ.t 2 = .bx 2 0 /\ σ.t 3 = .bx 3 0 /\ σ.b 2 = some (.box [.sl 3 (p.types.map MType.enc), .sl 6 (p.nodes.map MNode.enc)]) /\ σ.b 3 = some (.box [.s (.int .i64 k0), .s (.int .i64 at_), .s (.int .i64 n), .s (.string s), xJ kids, .sl 1 (pats.map MPat.enc)]) /\
     σ.t 44 = xJ kids /\ σ.t 45 = .s (.int .i64 kids.length) /\ σ.t 46 = .s (.int .i64 j) /\ ∀ x ∈ kids.take j, (decide (0 <= x) && decide (x < (p.nodes.length : Int))) = true) kids.length ⟨0, by omega, by omega, ?_⟩ ?_
     ·simp only [go_sem, simprocAttr, Int.natCast_zero, hk0]
      all_goals simp
     ·rintro m σ ⟨j, hj, rfl, g2, g3, gb2, gb3, g44, g45, g46, hno⟩ K' hK
      by_cases hlt : j < kids.length
      ·have hx := xb iE kids j hlt
       (have hWf := w10 @hk0 @g2 @g3 @gb2 @gb3 @g44 @g45 @g46 @hx @xn; repeat' (first | refine zS ?_ | refine zI ?_ ?_ | exact zF0 | refine zD fun hb => ?_ | exact zC | refine zT ?_ | fail))
       ·refine sB ?_
        unfold xO
        rw [wc hlt hb]; rfl
       ·refine hK (kids.length - (j + 1)) _ (by omega) ⟨j + 1, by omega, rfl, ?_⟩
        simp only [go_sem, simprocAttr, g2, g3, gb2, gb3, g44, g45, Int.natCast_succ]
        exact xG hlt hno (wd (by omega) (by omega))
      ·obtain rfl : j = kids.length := by omega
       have hin : inB p.nodes kids = true := xQ hno
       clear hno hK
       cases kids with
       | nil =>
        have hin : inB p.nodes [] = true := rfl
        cases hp0 : ((pats.length : Int) == 0)
        all_goals
         (have hWf := w9 @hk0 @g2 @g3 @gb2 @gb3 @g44 @g45 @g46 @hp0; repeat' (first | refine zS ?_ | refine zI ?_ ?_ | ((with_reducible apply xc); refine zG (xW s hsz 0 _) ?_) | ((with_reducible apply xf); refine xe (xW s hsz 0 _) ?_) | exact zF0 | refine zD fun hb => ?_ | exact zC | refine zT ?_ | fail))
         all_goals
          (try clear hop hsp)
          (try clear hK)
          refine sB ?_
          rw [Bool.eq_iff_iff, xC]
          have hpa0 := @pats0 pats
          simp only [xE, ha, xS] at *
          first | (simp_all; done) | grind | (constructor <;> intro hh <;> grind)
       | cons z l =>
        have hz := List.all_eq_true.1 hin z (by simp)
        simp only [Bool.and_eq_true, decide_eq_true_eq] at hz
        obtain ⟨q, rfl⟩ : ∃ q : Nat, z = (q : Int) := ⟨z.toNat, by omega⟩
        have hq : q < p.nodes.length := by omega
        have hn := xb MNode.enc p.nodes q hq
        have hne := MNode.enc_eq p.nodes[q]
        have hkk := fun kd => Y4 (nodes := p.nodes) (l := (q : Int) :: l) (by simp) hq rfl kd
        have h1k : (((l.length + 1 : Nat) : Int) == 1) = decide (l.length + 1 = 1) := by rw [Bool.eq_iff_iff]; simp only [beq_iff_eq, decide_eq_true_eq]; omega
        cases hp0 : ((pats.length : Int) == 0)
        all_goals
         cases h1 : (((l.length + 1 : Nat) : Int) == 1)
         all_goals
          (have hWf := w10 @hk0 @g2 @g3 @gb2 @gb3 @g44 @g45 @g46 @hn (ai @hne <| ai @xn <| ai @hp0 <| @h1); repeat' (first | refine zS ?_ | refine zI ?_ ?_ | ((with_reducible apply xc); refine zG (xW s hsz (l.length + 1) _) ?_) | ((with_reducible apply xf); refine xe (xW s hsz (l.length + 1) _) ?_) | exact zF0 | refine zD fun hb => ?_ | exact zC | refine zT ?_ | fail))
          all_goals
           (try clear hop hsp)
           (try clear hK)
           refine sB ?_
           rw [Bool.eq_iff_iff, xC]
           have hpa0 := @pats0 pats
           simp only [xE, ha, xS, hkk, List.length_cons, h1k] at *
           first | (simp_all; done) | grind | (constructor <;> intro hh <;> grind))
theorem xav (p : MProgram) (kind : Int) (hkd : (kind = 13 /\ arI kind = -1)) (at_ n : Int) (s : ByteArray) (kids : List Int) (pats : List MPat) (hkl : kids.length <= 1048576) (hpl : pats.length <= 1048576) (hsz : s.size <= maxLen) (hop : ∀ q ∈ pats, q.ok) (hsp : smS MPat.sm pats) :
  FCon Tryz.prog 127 [.ag p.enc, .ag (MNode.mk kind at_ n s kids pats).enc] (fun r _ => r = .s (.bool (xO p.nodes ⟨kind, at_, n, s, kids, pats⟩))) := by
 obtain ⟨k0, hk0⟩ : ∃ k0 : Int, k0 = kind := ⟨_, rfl⟩
 rcases hkd with ⟨rfl, ha⟩
 all_goals
  refine FI (PMr [15, 24]) Tryz.func127 Tryz.ntmps127 [(15, 26, [], [], (lin [] [0, 1, 2, 3, 4, 5, 6, 7, 8, 9, 10, 11, 12, 13, 14, 15, 16, 17, 18, 19, 20, 21, 22, 23, 24, 25])), (24, 15, [], [], (lin [] [0, 1, 2, 3, 4, 5, 6, 7, 8, 9, 10, 11, 12, 13, 14])), (26, 11, [], [], (lin [] [0, 1, 2, 3, 4, 5, 6, 7, 8, 9, 10]))] rfl rfl ?_
  (have hWf := w3 @MNode.enc_eq @MProgram.enc_eq @ha; repeat' (first | refine zS ?_ | refine zI ?_ ?_ | exact zF0 | refine zD fun hb => ?_ | exact zC | refine zT ?_ | fail))
  all_goals first
  | (
    (try clear hop hsp)
    (try clear hK)
    refine sB ?_
    rw [Bool.eq_iff_iff, xC]
    have hpa0 := @pats0 pats
    simp only [xE, ha, xS] at *
    first | (simp_all; done) | grind | (constructor <;> intro hh <;> grind))
  | (refine xd (fun m σ => ∃ j : Nat, j <= kids.length /\ m = kids.length - j /\ σ.t 2 = .bx 2 0 /\ σ.t 3 = .bx 3 0 /\ σ.b 2 = some (.box [.sl 3 (p.types.map MType.enc), .sl 6 (p.nodes.map MNode.enc)]) /\ σ.b 3 = some (.box [.s (.int .i64 k0), .s (.int .i64 at_), .s (.int .i64 n), .s (.string s), xJ kids, .sl 1 (pats.map MPat.enc)]) /\
     σ.t 44 = xJ kids /\ σ.t 45 = .s (.int .i64 kids.length) /\ σ.t 46 = .s (.int .i64 j) /\ ∀ x ∈ kids.take j, (decide (0 <= x) && decide (x < (p.nodes.length : Int))) = true) kids.length ⟨0, by omega, by omega, ?_⟩ ?_
     ·simp only [go_sem, simprocAttr, Int.natCast_zero, hk0]
      all_goals simp
     ·rintro m σ ⟨j, hj, rfl, g2, g3, gb2, gb3, g44, g45, g46, hno⟩ K' hK
      by_cases hlt : j < kids.length
      ·have hx := xb iE kids j hlt
       (have hWf := w10 @hk0 @g2 @g3 @gb2 @gb3 @g44 @g45 @g46 @hx @xn; repeat' (first | refine zS ?_ | refine zI ?_ ?_ | exact zF0 | refine zD fun hb => ?_ | exact zC | refine zT ?_ | fail))
       ·refine sB ?_
        unfold xO
        rw [wc hlt hb]; rfl
       ·refine hK (kids.length - (j + 1)) _ (by omega) ⟨j + 1, by omega, rfl, ?_⟩
        simp only [go_sem, simprocAttr, g2, g3, gb2, gb3, g44, g45, Int.natCast_succ]
        exact xG hlt hno (wd (by omega) (by omega))
      ·obtain rfl : j = kids.length := by omega
       have hin : inB p.nodes kids = true := xQ hno
       clear hno hK
       (have hWf := w8 @hk0 @g2 @g3 @gb2 @gb3 @g44 @g45 @g46; repeat' (first | refine zS ?_ | refine zI ?_ ?_ | ((with_reducible apply xc); refine zG (xK _) ?_) | ((with_reducible apply xf); refine xe (xK _) ?_) | exact zF0 | refine zD fun hb => ?_ | exact zC | refine zT ?_ | fail))
       all_goals first
       | (
        (try clear hop hsp)
        (try clear hK)
        refine sB ?_
        rw [Bool.eq_iff_iff, xC]
        have hpa0 := @pats0 pats
        simp only [xE, ha, xS] at *
        first | (simp_all; done) | grind | (constructor <;> intro hh <;> grind))
       | (refine xd (fun m σ => ∃ j : Nat, j <= pats.length /\ m = pats.length - j /\ σ.t 2 = .bx 2 0 /\ σ.t 3 = .bx 3 0 /\ σ.b 2 = some (.box [.sl 3 (p.types.map MType.enc), .sl 6 (p.nodes.map MNode.enc)]) /\ σ.b 3 = some (.box [.s (.int .i64 k0), .s (.int .i64 at_), .s (.int .i64 n), .s (.string s), xJ kids, .sl 1 (pats.map MPat.enc)]) /\
           σ.t 158 = .sl 1 (pats.map MPat.enc) /\ σ.t 159 = .s (.int .i64 pats.length) /\ σ.t 160 = .s (.int .i64 j) /\ ∀ q ∈ pats.take j, patM q.nodes = true) pats.length ⟨0, by omega, by omega, ?_⟩ ?_
          ·simp only [go_sem, simprocAttr, hk0, g2, g3, gb2, gb3, Int.natCast_zero]
           all_goals simp
          ·rintro m σ ⟨j, hj, rfl, e2, e3, eb2, eb3, e158, e159, e160, hno⟩ K'' hK
           by_cases hlt : j < pats.length
           ·have hx := xb MPat.enc pats j hlt
            have he := MPat.enc_eq pats[j]
            have hpc := Xg pats[j].nodes (hop _ (List.getElem_mem hlt)) (hsp.2 _ (List.getElem_mem hlt))
            cases hpm : patM pats[j].nodes with
            | false =>
             rw [hpm] at hpc
             (have hWf := w10 @hk0 @e2 @e3 @eb2 @eb3 @e158 @e159 @e160 @hx @he; repeat' (first | refine zS ?_ | refine zI ?_ ?_ | refine zK hpc ?_ | exact zF0 | refine zD fun hb => ?_ | exact zC | refine zT ?_ | fail))
             refine sB ?_
             unfold xO
             rw [yG (p := fun q : MPat => patM q.nodes) hlt hpm]; simp
            | true =>
             rw [hpm] at hpc
             (have hWf := w10 @hk0 @e2 @e3 @eb2 @eb3 @e158 @e159 @e160 @hx @he; repeat' (first | refine zS ?_ | refine zI ?_ ?_ | refine zK hpc ?_ | exact zF0 | refine zD fun hb => ?_ | exact zC | refine zT ?_ | fail))
             refine hK (pats.length - (j + 1)) _ (by omega) ⟨j + 1, by omega, rfl, ?_⟩
             simp only [go_sem, simprocAttr, e2, e3, eb2, eb3, e158, e159, Int.natCast_succ]
             exact xG hlt hno hpm
           ·obtain rfl : j = pats.length := by omega
            have hpa := xQ (p := fun q : MPat => patM q.nodes) hno
            clear hno hK
            (have hWf := w8 @hk0 @e2 @e3 @eb2 @eb3 @e158 @e159 @e160; repeat' (first | refine zS ?_ | refine zI ?_ ?_ | exact zF0 | refine zD fun hb => ?_ | exact zC | refine zT ?_ | fail))
            all_goals
             (try clear hop hsp)
             (try clear hK)
             refine sB ?_
             rw [Bool.eq_iff_iff, xC]
             have hpa0 := @pats0 pats
             simp only [xE, ha, xS, hpa] at *
             first | (simp_all; done) | grind | (constructor <;> intro hh <;> grind)))
theorem ZC (xs : List MType) (f : FuncId) (caps : List D) (hm : PM.md f = []) (p : MType -> Bool) (hf : ∀ x ∈ xs, FCon Tryz.prog f (.ag x.enc :: caps) (fun r _ => r = .s (.bool (p x)))) :
  FCon Tryz.prog 141 [.sl 3 (xs.map MType.enc), .fn f caps] (fun r _ => r = .s (.int .i64 (fidx p xs))) := by
 refine FI PM Tryz.func141 Tryz.ntmps141 [] rfl rfl ?_
 refine x5 0 rfl trivial fun hlen => ?_
 simp only [List.length_map] at hlen
 (have hWf := f0; repeat' (first | refine zS ?_ | refine zI ?_ ?_ | exact zF0 | refine zD fun hb => ?_ | exact zC | refine zT ?_ | fail))
 refine xd (fun n σ => ∃ k : Nat, k <= xs.length /\ n = xs.length - k /\ σ.t 0 = .sl 3 (xs.map MType.enc) /\ σ.t 1 = .fn f caps /\ σ.t 7 = .s (.int .i64 xs.length) /\ σ.t 8 = .s (.int .i64 k) /\ ∀ x ∈ xs.take k, p x = false) xs.length ⟨0, by omega, by omega, ?_⟩ ?_
 ·simp only [go_sem, simprocAttr, Int.natCast_zero]
  all_goals simp
 ·rintro n σ ⟨k, hk, rfl, h0, h1, h7, h8, hno⟩ K' hK
  by_cases hlt : k < xs.length
  ·have hx := xb MType.enc xs k hlt
   have he := MType.enc_eq xs[k]
   have hc := hf xs[k] (List.getElem_mem hlt)
   rw [he] at hc
   cases hp : p xs[k] with
   | true =>
    rw [hp] at hc
    (have hWf := w7 @h0 @h1 @h7 @h8 @hx @he @hm; repeat' (first | refine zS ?_ | refine zI ?_ ?_ | refine zK hc ?_ | exact zF0 | refine zD fun hb => ?_ | exact zC | refine zT ?_ | fail))
    all_goals exact xq (vn p xs k hlt hno hp).symm
   | false =>
    rw [hp] at hc
    (have hWf := w7 @h0 @h1 @h7 @h8 @hx @he @hm; repeat' (first | refine zS ?_ | refine zI ?_ ?_ | refine zK hc ?_ | exact zF0 | refine zD fun hb => ?_ | exact zC | refine zT ?_ | fail))
    refine hK (xs.length - (k + 1)) _ (by omega) ⟨k + 1, by omega, rfl, ?_⟩
    simp only [go_sem, simprocAttr, h0, h1, h7, Int.natCast_succ]
    exact Ze hlt hno hp
  ·obtain rfl : k = xs.length := by omega
   (have hWf := w4 @h0 @h1 @h7 @h8; repeat' (first | refine zS ?_ | refine zI ?_ ?_ | exact zF0 | refine zD fun hb => ?_ | exact zC | refine zT ?_ | fail))
   exact xq (vo p xs (by simpa using hno)).symm
theorem yO (xs : List MType) (f : FuncId) (caps : List D) (hm : PM.md f = []) (p : MType -> Bool) (hf : ∀ x ∈ xs, FCon Tryz.prog f (.ag x.enc :: caps) (fun r _ => r = .s (.bool (p x)))) :
  FCon Tryz.prog 87 [.sl 3 (xs.map MType.enc), .fn f caps] (fun r _ => r = .s (.bool (xs.any p))) := by
 refine FI PM Tryz.func87 Tryz.ntmps87 [] rfl rfl ?_
 (have hWf := f0; repeat' (first | refine zS ?_ | refine zI ?_ ?_ | refine zK (ZC xs f caps hm p hf) ?_ | exact zF0 | refine zD fun hb => ?_ | exact zC | refine zT ?_ | fail))
 exact sB (vx p xs)
theorem Wh (xs : List MPat) (f : FuncId) (caps : List D) (hm : PM.md f = []) (p : MPat -> Bool) (hf : ∀ x ∈ xs, FCon Tryz.prog f (.ag x.enc :: caps) (fun r _ => r = .s (.bool (p x)))) :
  FCon Tryz.prog 93 [.sl 1 (xs.map MPat.enc), .fn f caps] (fun r _ => r = .s (.int .i64 (fidx p xs))) := by
 refine FI PM Tryz.func93 Tryz.ntmps93 [] rfl rfl ?_
 refine x5 0 rfl trivial fun hlen => ?_
 simp only [List.length_map] at hlen
 (have hWf := f0; repeat' (first | refine zS ?_ | refine zI ?_ ?_ | exact zF0 | refine zD fun hb => ?_ | exact zC | refine zT ?_ | fail))
 refine xd (fun n σ => ∃ k : Nat, k <= xs.length /\ n = xs.length - k /\ σ.t 0 = .sl 1 (xs.map MPat.enc) /\ σ.t 1 = .fn f caps /\ σ.t 7 = .s (.int .i64 xs.length) /\ σ.t 8 = .s (.int .i64 k) /\ ∀ x ∈ xs.take k, p x = false) xs.length ⟨0, by omega, by omega, ?_⟩ ?_
 ·simp only [go_sem, simprocAttr, Int.natCast_zero]
  all_goals simp
 ·rintro n σ ⟨k, hk, rfl, h0, h1, h7, h8, hno⟩ K' hK
  by_cases hlt : k < xs.length
  ·have hx := xb MPat.enc xs k hlt
   have he := MPat.enc_eq xs[k]
   have hc := hf xs[k] (List.getElem_mem hlt)
   rw [he] at hc
   cases hp : p xs[k] with
   | true =>
    rw [hp] at hc
    (have hWf := w7 @h0 @h1 @h7 @h8 @hx @he @hm; repeat' (first | refine zS ?_ | refine zI ?_ ?_ | refine zK hc ?_ | exact zF0 | refine zD fun hb => ?_ | exact zC | refine zT ?_ | fail))
    all_goals exact xq (vn p xs k hlt hno hp).symm
   | false =>
    rw [hp] at hc
    (have hWf := w7 @h0 @h1 @h7 @h8 @hx @he @hm; repeat' (first | refine zS ?_ | refine zI ?_ ?_ | refine zK hc ?_ | exact zF0 | refine zD fun hb => ?_ | exact zC | refine zT ?_ | fail))
    refine hK (xs.length - (k + 1)) _ (by omega) ⟨k + 1, by omega, rfl, ?_⟩
    simp only [go_sem, simprocAttr, h0, h1, h7, Int.natCast_succ]
    exact Ze hlt hno hp
  ·obtain rfl : k = xs.length := by omega
   (have hWf := w4 @h0 @h1 @h7 @h8; repeat' (first | refine zS ?_ | refine zI ?_ ?_ | exact zF0 | refine zD fun hb => ?_ | exact zC | refine zT ?_ | fail))
   exact xq (vo p xs (by simpa using hno)).symm
theorem zQ (xs : List MPat) (f : FuncId) (caps : List D) (hm : PM.md f = []) (p : MPat -> Bool) (hf : ∀ x ∈ xs, FCon Tryz.prog f (.ag x.enc :: caps) (fun r _ => r = .s (.bool (p x)))) :
  FCon Tryz.prog 44 [.sl 1 (xs.map MPat.enc), .fn f caps] (fun r _ => r = .s (.bool (xs.any p))) := by
 refine FI PM Tryz.func44 Tryz.ntmps44 [] rfl rfl ?_
 (have hWf := f0; repeat' (first | refine zS ?_ | refine zI ?_ ?_ | refine zK (Wh xs f caps hm p hf) ?_ | exact zF0 | refine zD fun hb => ?_ | exact zC | refine zT ?_ | fail))
 exact sB (vx p xs)
def wj (p : MProgram) (nb : MNode -> Bool) : Bool := !(!(decide (1 <= (p.nodes.length : Int)) && decide ((p.nodes.length : Int) <= 600)) || decide (8 < (p.types.length : Int))) && xL (xI p.nodes) && (p.nodes.all fun n => xY p.nodes n (nb n)) && p.types.all yC
theorem xaH {p : MProgram} {nb : MNode -> Bool} (h : ((p.nodes.length : Int) < 1 \/ 600 < (p.nodes.length : Int)) \/ 8 < (p.types.length : Int)) : wj p nb = false := by
 unfold wj
 rcases h with (h | h) | h
 ·rw [decide_eq_false (by omega : ¬ 1 <= (p.nodes.length : Int))]; simp
 ·rw [decide_eq_false (by omega : ¬ (p.nodes.length : Int) <= 600)]; simp
 ·rw [decide_eq_true h]; simp
theorem xaI {p : MProgram} {nb : MNode -> Bool} (h : xL (xI p.nodes) = false) : wj p nb = false := by unfold wj; rw [h]; simp
theorem shapeI_ok {p : MProgram} {nb : MNode -> Bool} (h1 : 1 <= (p.nodes.length : Int)) (h2 : (p.nodes.length : Int) <= 600) (h3 : (p.types.length : Int) <= 8) (h : xL (xI p.nodes) = true) : wj p nb = ((p.nodes.all fun n => xY p.nodes n (nb n)) && p.types.all yC) := by
 unfold wj
 rw [h, decide_eq_true h1, decide_eq_true h2, decide_eq_false (by omega : ¬ 8 < (p.types.length : Int))]; simp
theorem Wn (t : MType) (ho : t.ok) (hs : t.sm) : FCon Tryz.prog 184 [.ag t.enc] (fun r _ => r = .s (.bool (!yC t))) := by
 have h := c_typeOk t ho hs
 rw [MType.enc_eq] at h
 refine FI PM Tryz.func184 Tryz.ntmps184 [] rfl rfl ?_
 (have hWf := w1 @MType.enc_eq; repeat' (first | refine zS ?_ | refine zI ?_ ?_ | refine zK h ?_ | exact zF0 | refine zD fun hb => ?_ | exact zC | refine zT ?_ | fail))
theorem c_progOk1 (n : MNode) (ho : n.ok) : FCon Tryz.prog 138 [.ag n.enc] (fun r _ => r = .s (.bool (xS n))) := by
 refine FI PM Tryz.func138 Tryz.ntmps138 [] rfl rfl ?_
 (have hWf := w1 @MNode.enc_eq; repeat' (first | refine zS ?_ | refine zI ?_ ?_ | refine zK (zR n.s ho.2.2.2.1) ?_ | exact zF0 | refine zD fun hb => ?_ | exact zC | refine zT ?_ | fail))
 all_goals
  refine sB ?_
  unfold xS
  first | rfl | (congr 1; rw [Bool.eq_iff_iff]; simp)
theorem c_progOk2 (q : MPat) (ho : q.ok) (hs : q.sm) : FCon Tryz.prog 140 [.ag q.enc] (fun r _ => r = .s (.bool (!patM q.nodes))) := by
 refine FI PM Tryz.func140 Tryz.ntmps140 [] rfl rfl ?_
 (have hWf := w1 @MPat.enc_eq; repeat' (first | refine zS ?_ | refine zI ?_ ?_ | refine zK (Zn q.nodes ho hs) ?_ | exact zF0 | refine zD fun hb => ?_ | exact zC | refine zT ?_ | fail))
theorem node_kid {p : MProgram} (hor : xL (xI p.nodes) = true) {k : Nat} (hlk : k < p.nodes.length) (h0 : 0 < p.nodes[k].kids.length) : ∃ q : Nat, p.nodes[k].kids[0] = (q : Int) /\ q < p.nodes.length := by
 unfold xL at hor
 have he : pEnd (xI p.nodes) (xI p.nodes).length 0 = some (xI p.nodes).length := by simpa using hor
 have hlen : (xI p.nodes).length = p.nodes.length := by simp
 have := XR (xI p.nodes) _ _ _ he k (by rw [hlen]; exact hlk) (Nat.zero_le _) (by rw [hlen]; exact hlk) (p.nodes[k].kids[0]) (by simp [xI])
 rw [hlen] at this
 exact this
theorem c_shapeOk (p : MProgram) (ho : p.ok) (hs : p.sm) (f : FuncId) (caps : List D) (hm : PM.md f = []) (nb : MNode -> Bool) (hf : ∀ n ∈ p.nodes, FCon Tryz.prog f (.ag n.enc :: caps) (fun r _ => r = .s (.bool (nb n)))) :
  FCon Tryz.prog 137 [.ag p.enc, .fn f caps] (fun r _ => r = .s (.bool (wj p nb))) := by
 obtain ⟨o1, o2⟩ := ho
 obtain ⟨s1, s2⟩ := hs
 have hln := s2.1
 have hlt := s1.1
 have hkl : ∀ x ∈ p.nodes, x.kids.length <= 1000000000 := fun x hx => by have := (s2.2 x hx).2.1.1; omega
 have hio := xad p o2 (by omega) hkl
 rw [MProgram.enc_eq] at hio
 refine FI PM Tryz.func137 Tryz.ntmps137 [] rfl rfl ?_
 (refine xj ?_; simp only [go_sem, simprocAttr, MProgram.enc_eq]; (have hWf := w1 @MProgram.enc_eq; repeat' (first | refine zY ?_ | refine zI ?_ ?_ | exact zF1 | refine zD fun hb => ?_ | exact zC | refine zT ?_ | fail)))
 refine yS 2 (.box [.sl 3 (p.types.map MType.enc), .sl 6 (p.nodes.map MNode.enc)]) (by simp only [go_sem, simprocAttr, MProgram.enc_eq]) rfl ?_
 (have hWf := w1 @MProgram.enc_eq; repeat' (first | refine zS ?_ | refine zI ?_ ?_ | refine zK (x8 p.nodes.length 1 600) ?_ | refine zK hio ?_ | exact zF0 | refine zD fun hb => ?_ | exact zC | refine zT ?_ | fail))
 ·exact sB (xaH (by omega)).symm
 ·exact sB (xaI (by first | exact hb | exact hb.symm)).symm
 ·rename_i hb1
  have hor : xL (xI p.nodes) = true := by first | exact hb | exact hb.symm
  rw [shapeI_ok (by omega) (by omega) (by omega) hor]
  refine xd (fun n σ => ∃ k : Nat, k <= p.nodes.length /\ n = p.nodes.length - k /\ σ.t 1 = .fn f caps /\ σ.t 2 = .pt [.sl 3 (p.types.map MType.enc), .sl 6 (p.nodes.map MNode.enc)] /\ σ.t 25 = .sl 6 (p.nodes.map MNode.enc) /\ σ.t 26 = .s (.int .i64 p.nodes.length) /\ σ.t 27 = .s (.int .i64 k) /\ ∀ x ∈ p.nodes.take k, xY p.nodes x (nb x) = true) p.nodes.length ⟨0, by omega, by omega, ?_⟩ ?_
  ·simp only [go_sem, simprocAttr, MProgram.enc_eq, Int.natCast_zero]
   all_goals simp
  ·rintro n σ ⟨k, hk, rfl, h1, h2, h25, h26, h27, hno⟩ K' hK
   by_cases hlk : k < p.nodes.length
   ·have hx := xb MNode.enc p.nodes k hlk
    have he := MNode.enc_eq p.nodes[k]
    have hmem := List.getElem_mem hlk
    have hc := c_nodeOk p p.nodes[k] (o2 _ hmem) (s2.2 _ hmem).2.2.1 (by have := (s2.2 _ hmem).2.1.1; omega) f caps hm (nb p.nodes[k]) (hf _ hmem) (node_kid hor hlk)
    rw [MProgram.enc_eq, MNode.enc_eq] at hc
    cases hq : xY p.nodes p.nodes[k] (nb p.nodes[k]) with
    | false =>
     rw [hq] at hc
     (have hWf := w7 @h1 @h2 @h25 @h26 @h27 @hx @he; repeat' (first | refine zS ?_ | refine zI ?_ ?_ | refine zK hc ?_ | exact zF0 | refine zD fun hb => ?_ | exact zC | refine zT ?_ | fail))
     rw [yG (p := fun n => xY p.nodes n (nb n)) hlk hq]; rfl
    | true =>
     rw [hq] at hc
     (have hWf := w7 @h1 @h2 @h25 @h26 @h27 @hx @he; repeat' (first | refine zS ?_ | refine zI ?_ ?_ | refine zK hc ?_ | exact zF0 | refine zD fun hb => ?_ | exact zC | refine zT ?_ | fail))
     refine hK (p.nodes.length - (k + 1)) _ (by omega) ⟨k + 1, by omega, rfl, ?_⟩
     simp only [go_sem, simprocAttr, h1, h2, h25, h26, h27, Int.natCast_succ]
     exact xG hlk hno hq
   ·obtain rfl : k = p.nodes.length := by omega
    (have hWf := w5 @h1 @h2 @h25 @h26 @h27; repeat' (first | refine zS ?_ | refine zI ?_ ?_ | ((with_reducible apply xc); refine zG (yO p.types _ [] rfl (fun t => !yC t) (fun t ht => Wn t (o1 t ht) (s1.2 t ht))) ?_) | ((with_reducible apply xf); refine xe (yO p.types _ [] rfl (fun t => !yC t) (fun t ht => Wn t (o1 t ht) (s1.2 t ht))) ?_) | exact zF0 | refine zD fun hb => ?_ | exact zC | refine zT ?_ | fail))
    rw [xQ (p := fun n => xY p.nodes n (nb n)) hno]
    rw [show p.types.all yC = !p.types.any fun t => !yC t by rw [List.not_any_eq_all_not]; simp]
    rfl
def progI (p : MProgram) : Bool := wj p xS && p.nodes.all fun n => n.pats.all fun q => patM q.nodes
theorem ZD (p : MProgram) (ho : p.ok) (hs : p.sm) : FCon Tryz.prog 86 [.ag p.enc] (fun r _ => r = .s (.bool (progI p))) := by
 have hss := c_shapeOk p ho hs 138 [] rfl xS (fun n hn => c_progOk1 n (ho.2 n hn))
 rw [MProgram.enc_eq] at hss
 obtain ⟨o1, o2⟩ := ho
 obtain ⟨s1, s2⟩ := hs
 have hln := s2.1
 unfold progI
 cases hsh : wj p xS with
 | false =>
  rw [hsh] at hss
  refine FI PM Tryz.func86 Tryz.ntmps86 [] rfl rfl ?_
  (have hWf := w1 @MProgram.enc_eq; repeat' (first | refine zS ?_ | refine zI ?_ ?_ | refine zK hss ?_ | exact zF0 | refine zD fun hb => ?_ | exact zC | refine zT ?_ | fail))
  all_goals rfl
 | true =>
  rw [hsh] at hss
  refine FI PM Tryz.func86 Tryz.ntmps86 [] rfl rfl ?_
  (have hWf := w1 @MProgram.enc_eq; repeat' (first | refine zS ?_ | refine zI ?_ ?_ | refine zK hss ?_ | exact zF0 | refine zD fun hb => ?_ | exact zC | refine zT ?_ | fail))
  refine xd (fun n σ => ∃ k : Nat, k <= p.nodes.length /\ n = p.nodes.length - k /\ σ.t 9 = .sl 6 (p.nodes.map MNode.enc) /\ σ.t 10 = .s (.int .i64 p.nodes.length) /\ σ.t 11 = .s (.int .i64 k) /\ ∀ x ∈ p.nodes.take k, (x.pats.all fun q => patM q.nodes) = true) p.nodes.length ⟨0, by omega, by omega, ?_⟩ ?_
  ·simp only [go_sem, simprocAttr, MProgram.enc_eq, Int.natCast_zero]
   all_goals simp
  ·rintro n σ ⟨k, hk, rfl, h9, h10, h11, hno⟩ K' hK
   by_cases hlk : k < p.nodes.length
   ·have hx := xb MNode.enc p.nodes k hlk
    have he := MNode.enc_eq p.nodes[k]
    have hmem := List.getElem_mem hlk
    have ho' := (o2 _ hmem).2.2.2.2.2
    have hs' := (s2.2 _ hmem).2.2
    have hna : (p.nodes[k].pats.all fun q => patM q.nodes) = !p.nodes[k].pats.any fun q => !patM q.nodes := by rw [List.not_any_eq_all_not]; simp
    have hcf := zQ p.nodes[k].pats 140 [] rfl (fun q => !patM q.nodes) (fun q hq => c_progOk2 q (ho' q hq) (hs'.2 q hq))
    cases hq : (p.nodes[k].pats.any fun q => !patM q.nodes) with
    | true =>
     rw [hq] at hcf hna
     (have hWf := w5 @h9 @h10 @h11 @hx @he; repeat' (first | refine zS ?_ | refine zI ?_ ?_ | refine zK hcf ?_ | exact zF0 | refine zD fun hb => ?_ | exact zC | refine zT ?_ | fail))
     rw [yG (p := fun n : MNode => n.pats.all fun q => patM q.nodes) hlk hna]
    | false =>
     rw [hq] at hcf hna
     (have hWf := w5 @h9 @h10 @h11 @hx @he; repeat' (first | refine zS ?_ | refine zI ?_ ?_ | refine zK hcf ?_ | exact zF0 | refine zD fun hb => ?_ | exact zC | refine zT ?_ | fail))
     refine hK (p.nodes.length - (k + 1)) _ (by omega) ⟨k + 1, by omega, rfl, ?_⟩
     simp only [go_sem, simprocAttr, h9, h10, h11, Int.natCast_succ]
     exact xG hlk hno hna
   ·obtain rfl : k = p.nodes.length := by omega
    (have hWf := w3 @h9 @h10 @h11; repeat' (first | refine zS ?_ | refine zI ?_ ?_ | exact zF0 | refine zD fun hb => ?_ | exact zC | refine zT ?_ | fail))
    rw [xQ (p := fun n : MNode => n.pats.all fun q => patM q.nodes) hno]
theorem order_in {p : MProgram} (h : xL (xI p.nodes) = true) : ∀ n ∈ p.nodes, inB p.nodes n.kids = true := by
 intro n hn
 obtain ⟨k, hk, rfl⟩ := List.getElem_of_mem hn
 unfold xL at h
 have he : pEnd (xI p.nodes) (xI p.nodes).length 0 = some (xI p.nodes).length := by simpa using h
 have hlen : (xI p.nodes).length = p.nodes.length := by simp
 refine List.all_eq_true.2 fun z hz => ?_
 obtain ⟨q, rfl, hq⟩ := XR (xI p.nodes) _ _ _ he k (by rw [hlen]; exact hk) (Nat.zero_le _) (by rw [hlen]; exact hk) z (by simpa [xI] using hz)
 rw [hlen] at hq
 rw [decide_eq_true (by omega), decide_eq_true (by omega)]; rfl
theorem progI_eq (p : MProgram) : progI p = x4 p := by
 unfold progI x4 wj
 cases ho : xL (xI p.nodes) with
 | false => simp
 | true =>
  have hin := order_in ho
  have h1 : p.nodes.all (xO p.nodes) = ((p.nodes.all fun n => xY p.nodes n (xS n)) && p.nodes.all fun n => n.pats.all fun q => patM q.nodes) := by
   rw [Bool.eq_iff_iff]
   simp only [Bool.and_eq_true, List.all_eq_true]
   constructor
   ·intro h
    refine ⟨fun n hn => ?_, fun n hn => ?_⟩
    ·have := h n hn
     unfold xO at this
     simp only [Bool.and_eq_true] at this
     exact this.1.2
    ·have := h n hn
     unfold xO at this
     simp only [Bool.and_eq_true, List.all_eq_true] at this
     exact this.2
   ·intro ⟨h1, h2⟩ n hn
    unfold xO
    simp only [Bool.and_eq_true, List.all_eq_true]
    exact ⟨⟨hin n hn, h1 n hn⟩, h2 n hn⟩
  rw [h1]
  have h2 : (!(!(decide (1 <= (p.nodes.length : Int)) && decide ((p.nodes.length : Int) <= 600)) || decide (8 < (p.types.length : Int)))) = (decide (1 <= p.nodes.length) && decide (p.nodes.length <= 600) && decide (p.types.length <= 8)) := by
   rw [Bool.eq_iff_iff]
   simp only [Bool.not_eq_true', Bool.or_eq_false_iff, Bool.not_eq_false', Bool.and_eq_true, decide_eq_true_eq, decide_eq_false_iff_not]
   omega
  rw [h2]
  cases decide (1 <= p.nodes.length) <;> cases decide (p.nodes.length <= 600) <;> cases decide (p.types.length <= 8) <;> cases (p.nodes.all fun n => xY p.nodes n (xS n)) <;> cases (p.types.all yC) <;> simp
theorem vR (p : MProgram) (ho : p.ok) (hs : p.sm) : FCon Tryz.prog 86 [.ag p.enc] (fun r _ => r = .s (.bool (x4 p))) := by
 rw [<- progI_eq]; exact ZD p ho hs
theorem c_l04NEnd (p : MProgram) (ho : ∀ x ∈ p.nodes, x.ok) (hl : p.nodes.length <= 1000000000) (hks : ∀ x ∈ p.nodes, x.kids.length <= 1000000000) :
  ∀ (N m : Nat), p.nodes.length - m <= N -> m <= 2000000000 -> FCon Tryz.prog 128 [.ag p.enc, .s (.int .i64 m)] (fun r _ => r = .s (.int .i64 (endZ (pEnd (xI p.nodes) N m)))) := by
 have hlen : (xI p.nodes).length = p.nodes.length := by simp
 have out : ∀ (N m : Nat), p.nodes.length <= m -> m <= 2000000000 -> FCon Tryz.prog 128 [.ag p.enc, .s (.int .i64 m)] (fun r _ => r = .s (.int .i64 (endZ (pEnd (xI p.nodes) N m)))) := by
  intro N m hm hm2
  rw [vB _ _ _ (by rw [hlen]; exact hm)]
  refine FI PM Tryz.func128 Tryz.ntmps128 [] rfl rfl ?_
  (have hWf := w1 @MProgram.enc_eq; repeat' (first | refine zS ?_ | refine zI ?_ ?_ | exact zF0 | refine zD fun hb => ?_ | exact zC | refine zT ?_ | fail))
  all_goals (try rfl)
 intro N
 induction N with
 | zero => intro m hm hm2; exact out 0 m (by omega) hm2
 | succ N ih =>
  intro m hm hm2
  by_cases hlt : m < p.nodes.length
  ·have hx := xb MNode.enc p.nodes m hlt
   have he := MNode.enc_eq p.nodes[m]
   have hkl := hks _ (List.getElem_mem hlt)
   rw [Xq _ _ _ (by rw [hlen]; exact hlt)]
   have hka : (xI p.nodes)[m]'(by rw [hlen]; exact hlt) = p.nodes[m].kids := by simp [xI]
   rw [hka]
   obtain ⟨R, hR⟩ : ∃ R, yH (pEnd (xI p.nodes) N) p.nodes[m].kids (m + 1) = R := ⟨_, rfl⟩
   rw [hR]
   refine FI PM Tryz.func128 Tryz.ntmps128 [] rfl rfl ?_
   (have hWf := w3 @MProgram.enc_eq @hx @he; repeat' (first | refine zS ?_ | refine zI ?_ ?_ | exact zF0 | refine zD fun hb => ?_ | exact zC | refine zT ?_ | fail))
   refine xd (fun n σ => ∃ j cur : Nat, j <= p.nodes[m].kids.length /\ n = p.nodes[m].kids.length - j /\ m < cur /\ cur <= 2000000000 /\ yH (pEnd (xI p.nodes) N) (p.nodes[m].kids.drop j) cur = R /\ σ.t 2 = .bx 2 0 /\ σ.b 2 = some (.box [.sl 3 (p.types.map MType.enc), .sl 6 (p.nodes.map MNode.enc)]) /\ σ.t 5 = .s (.int .i64 cur) /\ σ.t 20 = xJ p.nodes[m].kids /\ σ.t 21 = .s (.int .i64 p.nodes[m].kids.length) /\ σ.t 22 = .s (.int .i64 j)) p.nodes[m].kids.length ⟨0, m + 1, by omega, by omega, by omega, by omega, by rw [List.drop_zero]; exact hR, ?_⟩ ?_
   ·simp only [go_sem, simprocAttr, MProgram.enc_eq, Int.natCast_succ]
    all_goals simp
   ·rintro n σ ⟨j, cur, hj, rfl, hcur, hc2, hp, h2, hb2, h5, h20, h21, h22⟩ K' hK
    by_cases hjl : j < p.nodes[m].kids.length
    ·have gx := xb iE p.nodes[m].kids j hjl
     rw [Yu _ j hjl, wT] at hp
     by_cases hkc : p.nodes[m].kids[j] = (cur : Int)
     ·have hw : x7 (xI p.nodes) N p.nodes[m].kids[j] cur = pEnd (xI p.nodes) N cur := by unfold x7; rw [if_pos hkc]
      rw [hw] at hp
      have hkn : ((cur : Int) != (cur : Int)) = false := bne_self_eq_false _
      have hcc := ih cur (by omega) hc2
      cases hq : pEnd (xI p.nodes) N cur with
      | none =>
       rw [hq] at hcc hp
       have hcc : FCon Tryz.prog 128 [.ag [.sl 3 (p.types.map MType.enc), .sl 6 (p.nodes.map MNode.enc)], .s (.int .i64 cur)] (fun r _ => r = .s (.int .i64 (-1))) := hcc
       (have hWf := w10 @h2 @hb2 @h5 @h20 @h21 @h22 @gx @xn @hkc (ai @hkn <| @MProgram.enc_eq); repeat' (first | refine zS ?_ | refine zI ?_ ?_ | refine zK hcc ?_ | exact zF0 | refine zD fun hb => ?_ | exact zC | refine zT ?_ | fail))
       all_goals (rw [<- hp]; rfl)
      | some e1 =>
       rw [hq] at hcc hp
       have hcc : FCon Tryz.prog 128 [.ag [.sl 3 (p.types.map MType.enc), .sl 6 (p.nodes.map MNode.enc)], .s (.int .i64 cur)] (fun r _ => r = .s (.int .i64 (e1 : Int))) := hcc
       have hbd := Xr _ _ _ _ hq
       rw [hlen] at hbd
       (have hWf := w10 @h2 @hb2 @h5 @h20 @h21 @h22 @gx @xn @hkc (ai @hkn <| @MProgram.enc_eq); repeat' (first | refine zS ?_ | refine zI ?_ ?_ | refine zK hcc ?_ | exact zF0 | refine zD fun hb => ?_ | exact zC | refine zT ?_ | fail))
       refine hK (p.nodes[m].kids.length - (j + 1)) _ (by omega) ⟨j + 1, e1, by omega, rfl, by omega, by omega, hp, ?_⟩
       simp only [go_sem, simprocAttr, h2, hb2, h5, h20, h21, h22, Int.natCast_succ]
       all_goals simp
     ·have hw : x7 (xI p.nodes) N p.nodes[m].kids[j] cur = none := by unfold x7; rw [if_neg hkc]
      rw [hw] at hp
      have hne : (p.nodes[m].kids[j] != (cur : Int)) = true := by simpa using hkc
      (have hWf := w10 @h2 @hb2 @h5 @h20 @h21 @h22 @gx @xn @hne @MProgram.enc_eq; repeat' (first | refine zS ?_ | refine zI ?_ ?_ | exact zF0 | refine zD fun hb => ?_ | exact zC | refine zT ?_ | fail))
      all_goals (rw [<- hp]; rfl)
    ·obtain rfl : j = p.nodes[m].kids.length := by omega
     rw [List.drop_eq_nil_of_le (Nat.le_refl _)] at hp
     (have hWf := w6 @h2 @hb2 @h5 @h20 @h21 @h22; repeat' (first | refine zS ?_ | refine zI ?_ ?_ | exact zF0 | refine zD fun hb => ?_ | exact zC | refine zT ?_ | fail))
     rw [<- hp]; rfl
  ·exact out (N + 1) m (by omega) hm2
theorem c_l04Node (p : MProgram) (x : MNode) (ho : x.ok) (hs : x.sm) : FCon Tryz.prog 127 [.ag p.enc, .ag x.enc] (fun r _ => r = .s (.bool (xO p.nodes x))) := by
 obtain ⟨kind, at_, n, s, kids, pats⟩ := x
 obtain ⟨o1, o2, o3, o4, o5, o6⟩ := ho
 obtain ⟨s1, s2, s3⟩ := hs
 by_cases hkd : kind < 1 \/ 19 < kind
 ·have hm : xO p.nodes ⟨kind, at_, n, s, kids, pats⟩ = false := by
   have g : xE p.nodes ⟨kind, at_, n, s, kids, pats⟩ (xS ⟨kind, at_, n, s, kids, pats⟩) = false := by
    unfold xE
    simp only
    repeat' split
    all_goals first
     | omega
     | (rcases hkd with q | q
        ·rw [decide_eq_false (by omega : ¬ 1 <= kind)]; rfl
        ·rw [decide_eq_false (by omega : ¬ kind <= 19)]; simp)
   unfold xO xY
   rw [g]; simp
  rw [hm]
  rcases hkd with hkd | hkd
  ·have h1 : decide (kind < 1) = true := decide_eq_true hkd
   refine FI PM Tryz.func127 Tryz.ntmps127 [(15, 26, [], [], (lin [] [0, 1, 2, 3, 4, 5, 6, 7, 8, 9, 10, 11, 12, 13, 14, 15, 16, 17, 18, 19, 20, 21, 22, 23, 24, 25])), (24, 15, [], [], (lin [] [0, 1, 2, 3, 4, 5, 6, 7, 8, 9, 10, 11, 12, 13, 14])), (26, 11, [], [], (lin [] [0, 1, 2, 3, 4, 5, 6, 7, 8, 9, 10]))] rfl rfl ?_
   (have hWf := w3 @MNode.enc_eq @MProgram.enc_eq @h1; repeat' (first | refine zS ?_ | refine zI ?_ ?_ | exact zF0 | refine zD fun hb => ?_ | exact zC | refine zT ?_ | fail))
   all_goals (first | (done) | (exfalso; simp_all; omega) | trace_state)
  ·have h1 : decide (kind < 1) = false := decide_eq_false (by omega)
   have h2 : decide (kind > 19) = true := decide_eq_true hkd
   refine FI PM Tryz.func127 Tryz.ntmps127 [(15, 26, [], [], (lin [] [0, 1, 2, 3, 4, 5, 6, 7, 8, 9, 10, 11, 12, 13, 14, 15, 16, 17, 18, 19, 20, 21, 22, 23, 24, 25])), (24, 15, [], [], (lin [] [0, 1, 2, 3, 4, 5, 6, 7, 8, 9, 10, 11, 12, 13, 14])), (26, 11, [], [], (lin [] [0, 1, 2, 3, 4, 5, 6, 7, 8, 9, 10]))] rfl rfl ?_
   (have hWf := w4 @MNode.enc_eq @MProgram.enc_eq @h1 @h2; repeat' (first | refine zS ?_ | refine zI ?_ ?_ | exact zF0 | refine zD fun hb => ?_ | exact zC | refine zT ?_ | fail))
   all_goals (first | (done) | (exfalso; simp_all; omega) | trace_state)
 ·rcases (show kind = 1 \/ kind = 2 \/ kind = 3 \/ kind = 4 \/ kind = 5 \/ kind = 6 \/ kind = 7 \/ kind = 8 \/ kind = 9 \/ kind = 10 \/ kind = 11 \/ kind = 12 \/ kind = 13 \/ kind = 14 \/ kind = 15 \/ kind = 16 \/ kind = 17 \/ kind = 18 \/ kind = 19 by omega) with rfl | rfl | rfl | rfl | rfl | rfl | rfl | rfl | rfl | rfl | rfl | rfl | rfl | rfl | rfl | rfl | rfl | rfl | rfl
  ·exact YB p 1 (.inl ⟨rfl, by decide⟩) at_ n s kids pats s2.1 s3.1 o4 o6 s3
  ·exact YB p 2 (.inr (.inl ⟨rfl, by decide⟩)) at_ n s kids pats s2.1 s3.1 o4 o6 s3
  ·exact YB p 3 (.inr (.inr (⟨rfl, by decide⟩))) at_ n s kids pats s2.1 s3.1 o4 o6 s3
  ·exact l04Node_4 p 4 (⟨rfl, by decide⟩) at_ n s kids pats s2.1 s3.1 o4 o6 s3
  ·exact YC p 5 (.inl ⟨rfl, by decide⟩) at_ n s kids pats s2.1 s3.1 o4 o6 s3
  ·exact YD p 6 (.inl ⟨rfl, by decide⟩) at_ n s kids pats s2.1 s3.1 o4 o6 s3
  ·exact YC p 7 (.inr (.inl ⟨rfl, by decide⟩)) at_ n s kids pats s2.1 s3.1 o4 o6 s3
  ·exact l04Node_8 p 8 (⟨rfl, by decide⟩) at_ n s kids pats s2.1 s3.1 o4 o6 s3
  ·exact YD p 9 (.inr (.inl ⟨rfl, by decide⟩)) at_ n s kids pats s2.1 s3.1 o4 o6 s3
  ·exact YD p 10 (.inr (.inr (⟨rfl, by decide⟩))) at_ n s kids pats s2.1 s3.1 o4 o6 s3
  ·exact YE p 11 (.inl ⟨rfl, by decide⟩) at_ n s kids pats s2.1 s3.1 o4 o6 s3
  ·exact YE p 12 (.inr (.inl ⟨rfl, by decide⟩)) at_ n s kids pats s2.1 s3.1 o4 o6 s3
  ·exact xav p 13 (⟨rfl, by decide⟩) at_ n s kids pats s2.1 s3.1 o4 o6 s3
  ·exact YE p 14 (.inr (.inr (⟨rfl, by decide⟩))) at_ n s kids pats s2.1 s3.1 o4 o6 s3
  ·exact YC p 15 (.inr (.inr (⟨rfl, by decide⟩))) at_ n s kids pats s2.1 s3.1 o4 o6 s3
  ·exact UT p 16 (.inl ⟨rfl, by decide⟩) at_ n s kids pats s2.1 s3.1 o4 o6 s3
  ·exact UT p 17 (.inr (⟨rfl, by decide⟩)) at_ n s kids pats s2.1 s3.1 o4 o6 s3
  ·exact UU p 18 (.inl ⟨rfl, by decide⟩) at_ n s kids pats s2.1 s3.1 o4 o6 s3
  ·exact UU p 19 (.inr (⟨rfl, by decide⟩)) at_ n s kids pats s2.1 s3.1 o4 o6 s3
theorem headM {p : MProgram} (h : ((p.nodes.length : Int) < 1 \/ 600 < (p.nodes.length : Int)) \/ 8 < (p.types.length : Int)) : x4 p = false := by
 unfold x4
 rcases h with (h | h) | h
 ·rw [decide_eq_false (by omega : ¬ 1 <= p.nodes.length)]; rfl
 ·rw [decide_eq_false (by omega : ¬ p.nodes.length <= 600)]; simp
 ·rw [decide_eq_false (by omega : ¬ p.types.length <= 8)]; simp
theorem headM_ok {p : MProgram} (h : (1 <= (p.nodes.length : Int) /\ (p.nodes.length : Int) <= 600) /\ (p.types.length : Int) <= 8) : x4 p = (p.types.all yC && p.nodes.all (xO p.nodes) && xL (xI p.nodes)) := by
 unfold x4
 rw [decide_eq_true (by omega : 1 <= p.nodes.length), decide_eq_true (by omega : p.nodes.length <= 600), decide_eq_true (by omega : p.types.length <= 8)]
 rfl
theorem typeS_bad {t : MType} (h : (((xU t.name = false \/ t.params < 0) \/ 2 < t.params) \/ (t.cons.length : Int) < 1) \/ 8 < (t.cons.length : Int)) : yC t = false := Vj (by
 rcases h with (((h | h) | h) | h) | h
 ·exact .inl (.inl h)
 ·exact .inl (.inr (.inl h))
 ·exact .inl (.inr (.inr h))
 ·exact .inr (.inl h)
 ·exact .inr (.inr h))
theorem typeS_ok {t : MType} (h : (((xU t.name = true /\ 0 <= t.params) /\ t.params <= 2) /\ 1 <= (t.cons.length : Int)) /\ (t.cons.length : Int) <= 8) : yC t = t.cons.all (xX t.params) := QH ⟨⟨h.1.1.1.1, h.1.1.1.2, h.1.1.2⟩, h.1.2, h.2⟩
theorem vT (p : MProgram) (ho : p.ok) (hs : p.sm) : FCon Tryz.prog 70 [.ag p.enc] (fun r _ => r = .s (.bool (x4 p))) := by
 obtain ⟨o1, o2⟩ := ho
 obtain ⟨s1, s2⟩ := hs
 have hln := s2.1
 have hlt := s1.1
 have hkl : ∀ x ∈ p.nodes, x.kids.length <= 1000000000 := fun x hx => by have := (s2.2 x hx).2.1.1; omega
 refine FI PM Tryz.func70 Tryz.ntmps70 [(21, 5, [], [], (lin [] [0, 1, 2, 3, 4]))] rfl rfl ?_
 (have hWf := w1 @MProgram.enc_eq; repeat' (first | refine zS ?_ | refine zI ?_ ?_ | exact zF0 | refine zD fun hb => ?_ | exact zC | refine zT ?_ | fail))
 ·rw [headM hb]
 ·rw [headM_ok hb]
  refine xd (fun n σ => ∃ k : Nat, k <= p.types.length /\ n = p.types.length - k /\ σ.t 1 = .bx 1 0 /\ σ.b 1 = some (.box [.sl 3 (p.types.map MType.enc), .sl 6 (p.nodes.map MNode.enc)]) /\ σ.t 26 = .sl 3 (p.types.map MType.enc) /\ σ.t 27 = .s (.int .i64 p.types.length) /\ σ.t 28 = .s (.int .i64 k) /\ ∀ x ∈ p.types.take k, yC x = true) p.types.length ⟨0, by omega, by omega, ?_⟩ ?_
  ·simp only [go_sem, simprocAttr, MProgram.enc_eq, Int.natCast_succ, Int.natCast_zero]
   all_goals simp
  ·rintro n σ ⟨k, hk, rfl, h1, hb1, h26, h27, h28, hno⟩ K' hK
   by_cases hlk : k < p.types.length
   ·have hx := xb MType.enc p.types k hlk
    have he := MType.enc_eq p.types[k]
    have hok := o1 _ (List.getElem_mem hlk)
    have hsm := s1.2 _ (List.getElem_mem hlk)
    have hcl := hsm.2.1
    (have hWf := w7 @h1 @hb1 @h26 @h27 @h28 @hx @he; repeat' (first | refine zS ?_ | refine zI ?_ ?_ | refine zK (xA p.types[k].name hok.1) ?_ | exact zF0 | refine zD fun hb => ?_ | exact zC | refine zT ?_ | fail))
    ·rw [yG hlk (typeS_bad hb)]; rfl
    ·have hto := typeS_ok hb
     refine xd (fun n σ => ∃ j : Nat, j <= p.types[k].cons.length /\ n = p.types[k].cons.length - j /\ σ.t 1 = .bx 1 0 /\ σ.b 1 = some (.box [.sl 3 (p.types.map MType.enc), .sl 6 (p.nodes.map MNode.enc)]) /\ σ.t 26 = .sl 3 (p.types.map MType.enc) /\ σ.t 27 = .s (.int .i64 p.types.length) /\ σ.t 28 = .s (.int .i64 k) /\
      σ.t 4 = .bx 4 0 /\ σ.b 4 = some (.box [.s (.string p.types[k].name), .s (.int .i64 p.types[k].params), .sl 3 (p.types[k].cons.map MCon.enc)]) /\ σ.t 59 = .sl 3 (p.types[k].cons.map MCon.enc) /\ σ.t 60 = .s (.int .i64 p.types[k].cons.length) /\ σ.t 61 = .s (.int .i64 j) /\ ∀ c ∈ p.types[k].cons.take j, xX p.types[k].params c = true) p.types[k].cons.length ⟨0, by omega, by omega, ?_⟩ ?_
     ·simp only [go_sem, simprocAttr, h1, hb1, h26, h27, h28, Int.natCast_succ, Int.natCast_zero]
      all_goals simp
     ·rintro n σ ⟨j, hj, rfl, g1, gb1, g26, g27, g28, g4, gb4, g59, g60, g61, hno2⟩ K'' hK''
      by_cases hlj : j < p.types[k].cons.length
      ·have gx := xb MCon.enc p.types[k].cons j hlj
       have ge := MCon.enc_eq p.types[k].cons[j]
       have hcn := c_l04Con p.types[k].cons[j] p.types[k].params (hok.2.2 _ (List.getElem_mem hlj)) (hsm.2.2 _ (List.getElem_mem hlj))
       rw [ge] at hcn
       cases hq : xX p.types[k].params p.types[k].cons[j] with
       | false =>
        rw [hq] at hcn
        (have hWf := w10 @g1 @gb1 @g26 @g27 @g28 @g4 @gb4 @g59 @g60 (ai @g61 <| ai @gx <| @ge); repeat' (first | refine zS ?_ | refine zI ?_ ?_ | refine zK hcn ?_ | exact zF0 | refine zD fun hb => ?_ | exact zC | refine zT ?_ | fail))
        rw [yG hlk (by rw [hto]; exact yG hlj hq)]; rfl
       | true =>
        rw [hq] at hcn
        (have hWf := w10 @g1 @gb1 @g26 @g27 @g28 @g4 @gb4 @g59 @g60 (ai @g61 <| ai @gx <| @ge); repeat' (first | refine zS ?_ | refine zI ?_ ?_ | refine zK hcn ?_ | exact zF0 | refine zD fun hb => ?_ | exact zC | refine zT ?_ | fail))
        refine hK'' (p.types[k].cons.length - (j + 1)) _ (by omega) ⟨j + 1, by omega, rfl, ?_⟩
        simp only [go_sem, simprocAttr, g1, gb1, g26, g27, g28, g4, gb4, g59, g60, Int.natCast_succ]
        exact xG hlj hno2 hq
      ·obtain rfl : j = p.types[k].cons.length := by omega
       (have hWf := w8 @g1 @gb1 @g26 @g27 @g28 @g59 @g60 @g61; repeat' (first | refine zS ?_ | refine zI ?_ ?_ | exact zF0 | refine zD fun hb => ?_ | exact zC | refine zT ?_ | fail))
       refine hK (p.types.length - (k + 1)) _ (by omega) ⟨k + 1, by omega, rfl, ?_⟩
       simp only [go_sem, simprocAttr, g1, gb1, g26, g27, g28, Int.natCast_succ, Int.natCast_zero]
       exact xG hlk hno (by rw [hto]; exact xQ hno2)
   ·obtain rfl : k = p.types.length := by omega
    have hty := xQ hno
    rw [hty, Bool.true_and]
    clear hK
    (have hWf := w5 @h1 @hb1 @h26 @h27 @h28; repeat' (first | refine zS ?_ | refine zI ?_ ?_ | exact zF0 | refine zD fun hb => ?_ | exact zC | refine zT ?_ | fail))
    refine xd (fun n σ => ∃ k : Nat, k <= p.nodes.length /\ n = p.nodes.length - k /\ σ.t 1 = .bx 1 0 /\ σ.b 1 = some (.box [.sl 3 (p.types.map MType.enc), .sl 6 (p.nodes.map MNode.enc)]) /\ σ.t 73 = .sl 6 (p.nodes.map MNode.enc) /\ σ.t 74 = .s (.int .i64 p.nodes.length) /\ σ.t 75 = .s (.int .i64 k) /\ ∀ x ∈ p.nodes.take k, xO p.nodes x = true) p.nodes.length ⟨0, by omega, by omega, ?_⟩ ?_
    ·simp only [go_sem, simprocAttr, h1, hb1, Int.natCast_succ, Int.natCast_zero]
     all_goals simp
    ·rintro n σ ⟨k, hk, rfl, g1, gb1, g73, g74, g75, hno2⟩ K'' hK''
     by_cases hlj : k < p.nodes.length
     ·have gx := xb MNode.enc p.nodes k hlj
      have ge := MNode.enc_eq p.nodes[k]
      have hcn := c_l04Node p p.nodes[k] (o2 _ (List.getElem_mem hlj)) (s2.2 _ (List.getElem_mem hlj))
      rw [ge, MProgram.enc_eq] at hcn
      cases hq : xO p.nodes p.nodes[k] with
      | false =>
       rw [hq] at hcn
       (have hWf := w7 @g1 @gb1 @g73 @g74 @g75 @gx @ge; repeat' (first | refine zS ?_ | refine zI ?_ ?_ | refine zK hcn ?_ | exact zF0 | refine zD fun hb => ?_ | exact zC | refine zT ?_ | fail))
       rw [yG hlj hq]; rfl
      | true =>
       rw [hq] at hcn
       (have hWf := w7 @g1 @gb1 @g73 @g74 @g75 @gx @ge; repeat' (first | refine zS ?_ | refine zI ?_ ?_ | refine zK hcn ?_ | exact zF0 | refine zD fun hb => ?_ | exact zC | refine zT ?_ | fail))
       refine hK'' (p.nodes.length - (k + 1)) _ (by omega) ⟨k + 1, by omega, rfl, ?_⟩
       simp only [go_sem, simprocAttr, g1, gb1, g73, g74, Int.natCast_succ]
       exact xG hlj hno2 hq
     ·obtain rfl : k = p.nodes.length := by omega
      rw [xQ hno2, Bool.true_and]
      have hcc := c_l04NEnd p o2 (by omega) hkl p.nodes.length 0 (by omega) (by omega)
      have hor : xL (xI p.nodes) = (endZ (pEnd (xI p.nodes) p.nodes.length 0) == (p.nodes.length : Int)) := by
       rw [ZK]
       unfold xL
       rw [show (xI p.nodes).length = p.nodes.length by simp]
      have hcc : FCon Tryz.prog 128 [.ag [.sl 3 (p.types.map MType.enc), .sl 6 (p.nodes.map MNode.enc)], .s (.int .i64 0)] (fun r _ => r = .s (.int .i64 (endZ (pEnd (xI p.nodes) p.nodes.length 0)))) := hcc
      (have hWf := w5 @g1 @gb1 @g73 @g74 @g75; repeat' (first | refine zS ?_ | refine zI ?_ ?_ | refine zK hcc ?_ | exact zF0 | refine zD fun hb => ?_ | exact zC | refine zT ?_ | fail))
      rw [hor]
theorem li_t : (⟨#[105, 110, 116]⟩ : ByteArray).toList = [105, 110, 116] := by rw [ByteArray.toList_eq]
theorem lb_t : (⟨#[98, 111, 111, 108]⟩ : ByteArray).toList = [98, 111, 111, 108] := by rw [ByteArray.toList_eq]
theorem ls_t : (⟨#[115, 116, 114, 105, 110, 103]⟩ : ByteArray).toList = [115, 116, 114, 105, 110, 103] := by rw [ByteArray.toList_eq]
theorem lu_t : (⟨#[117, 110, 105, 116]⟩ : ByteArray).toList = [117, 110, 105, 116] := by rw [ByteArray.toList_eq]
theorem ll_t : (⟨#[108, 105, 115, 116]⟩ : ByteArray).toList = [108, 105, 115, 116] := by rw [ByteArray.toList_eq]
theorem lr_t : (⟨#[114, 101, 102]⟩ : ByteArray).toList = [114, 101, 102] := by rw [ByteArray.toList_eq]
theorem la_t : (⟨#[45, 62]⟩ : ByteArray).toList = [45, 62] := by rw [ByteArray.toList_eq]
theorem lm_t : (⟨#[42]⟩ : ByteArray).toList = [42] := by rw [ByteArray.toList_eq]
def gvM (s : ByteArray) : Int :=
 if s.toList = [105, 110, 116] \/ s.toList = [98, 111, 111, 108] \/ s.toList = [115, 116, 114, 105, 110, 103] \/ s.toList = [117, 110, 105, 116] then 0
 else if s.toList = [108, 105, 115, 116] \/ s.toList = [114, 101, 102] then 1
 else if s.toList = [45, 62] \/ s.toList = [42] then 2 else -1
def isTy (x : TyI) (t : MType) : Bool := t.name.toList == x.name.toList && (t.params == x.ar)
def zt (ts : List MType) (x : TyI) : Bool := if 0 <= gvM x.name then x.ar == gvM x.name else ts.any (isTy x)
def yY (ts : List MType) (x : TyI) : Bool := ts.any (isTy x) || (gvM x.name == x.ar)
theorem xae (t : MType) (x : TyI) : FCon Tryz.prog 144 [.ag t.enc, .pt x.enc] (fun r _ => r = .s (.bool (isTy x t))) := by
 unfold isTy
 rcases Bool.eq_false_or_eq_true (t.name.toList == x.name.toList) with e | e
 all_goals
  rw [e]
  refine FI PM Tryz.func144 Tryz.ntmps144 [] rfl rfl ?_
  (have hWf := w3 @MType.enc_eq @TyI.enc_eq @e; repeat' (first | refine zS ?_ | refine zI ?_ ?_ | exact zF0 | refine zD fun hb => ?_ | exact zC | refine zT ?_ | fail))
theorem nameC (s : ByteArray) : (s.toList = [105, 110, 116] \/ s.toList = [98, 111, 111, 108] \/ s.toList = [115, 116, 114, 105, 110, 103] \/ s.toList = [117, 110, 105, 116] \/ s.toList = [108, 105, 115, 116] \/ s.toList = [114, 101, 102] \/ s.toList = [45, 62] \/ s.toList = [42]) \/ (gvM s = -1 /\ (s.toList == [105, 110, 116]) = false /\ (s.toList == [98, 111, 111, 108]) = false /\ (s.toList == [115, 116, 114, 105, 110, 103]) = false /\ (s.toList == [117, 110, 105, 116]) = false /\ (s.toList == [108, 105, 115, 116]) = false /\ (s.toList == [114, 101, 102]) = false /\ (s.toList == [45, 62]) = false /\ (s.toList == [42]) = false) := by
 by_cases h : (s.toList = [105, 110, 116] \/ s.toList = [98, 111, 111, 108] \/ s.toList = [115, 116, 114, 105, 110, 103] \/ s.toList = [117, 110, 105, 116] \/ s.toList = [108, 105, 115, 116] \/ s.toList = [114, 101, 102] \/ s.toList = [45, 62] \/ s.toList = [42])
 ·exact .inl h
 ·simp only [not_or] at h
  obtain ⟨h1, h2, h3, h4, h5, h6, h7, h8⟩ := h
  refine .inr ⟨?_, by simpa using h1, by simpa using h2, by simpa using h3, by simpa using h4, by simpa using h5, by simpa using h6, by simpa using h7, by simpa using h8⟩
  unfold gvM
  rw [if_neg (by simp [h1, h2, h3, h4]), if_neg (by simp [h5, h6]), if_neg (by simp [h7, h8])]
theorem c_knownTy (ts : List MType) (x : TyI) : FCon Tryz.prog 92 [.sl 3 (ts.map MType.enc), .ag x.enc] (fun r _ => r = .s (.bool (zt ts x))) := by
 rcases nameC x.name with h | ⟨hg, h1, h2, h3, h4, h5, h6, h7, h8⟩
 ·have hk : 0 <= gvM x.name -> zt ts x = (x.ar == gvM x.name) := fun q => by unfold zt; rw [if_pos q]
  rcases h with h | h | h | h | h | h | h | h
  ·have hg : gvM x.name = 0 := by unfold gvM; rw [h]; decide
   rw [hk (by omega), hg]
   have e0 : (x.name.toList == [105, 110, 116]) = true := by rw [h]; decide
   have e1 : (x.name.toList == [98, 111, 111, 108]) = false := by rw [h]; decide
   have e2 : (x.name.toList == [115, 116, 114, 105, 110, 103]) = false := by rw [h]; decide
   have e3 : (x.name.toList == [117, 110, 105, 116]) = false := by rw [h]; decide
   have e4 : (x.name.toList == [108, 105, 115, 116]) = false := by rw [h]; decide
   have e5 : (x.name.toList == [114, 101, 102]) = false := by rw [h]; decide
   have e6 : (x.name.toList == [45, 62]) = false := by rw [h]; decide
   have e7 : (x.name.toList == [42]) = false := by rw [h]; decide
   refine FI PM Tryz.func92 Tryz.ntmps92 [] rfl rfl ?_
   (have hWf := w10 @TyI.enc_eq @e0 @e1 @e2 @e3 @e4 @e5 @e6 @e7 (ai @li_t <| ai @lb_t <| ai @ls_t <| ai @lu_t <| ai @ll_t <| ai @lr_t <| ai @la_t <| @lm_t); repeat' (first | refine zS ?_ | refine zI ?_ ?_ | exact zF0 | refine zD fun hb => ?_ | exact zC | refine zT ?_ | fail))
  ·have hg : gvM x.name = 0 := by unfold gvM; rw [h]; decide
   rw [hk (by omega), hg]
   have e0 : (x.name.toList == [105, 110, 116]) = false := by rw [h]; decide
   have e1 : (x.name.toList == [98, 111, 111, 108]) = true := by rw [h]; decide
   have e2 : (x.name.toList == [115, 116, 114, 105, 110, 103]) = false := by rw [h]; decide
   have e3 : (x.name.toList == [117, 110, 105, 116]) = false := by rw [h]; decide
   have e4 : (x.name.toList == [108, 105, 115, 116]) = false := by rw [h]; decide
   have e5 : (x.name.toList == [114, 101, 102]) = false := by rw [h]; decide
   have e6 : (x.name.toList == [45, 62]) = false := by rw [h]; decide
   have e7 : (x.name.toList == [42]) = false := by rw [h]; decide
   refine FI PM Tryz.func92 Tryz.ntmps92 [] rfl rfl ?_
   (have hWf := w10 @TyI.enc_eq @e0 @e1 @e2 @e3 @e4 @e5 @e6 @e7 (ai @li_t <| ai @lb_t <| ai @ls_t <| ai @lu_t <| ai @ll_t <| ai @lr_t <| ai @la_t <| @lm_t); repeat' (first | refine zS ?_ | refine zI ?_ ?_ | exact zF0 | refine zD fun hb => ?_ | exact zC | refine zT ?_ | fail))
  ·have hg : gvM x.name = 0 := by unfold gvM; rw [h]; decide
   rw [hk (by omega), hg]
   have e0 : (x.name.toList == [105, 110, 116]) = false := by rw [h]; decide
   have e1 : (x.name.toList == [98, 111, 111, 108]) = false := by rw [h]; decide
   have e2 : (x.name.toList == [115, 116, 114, 105, 110, 103]) = true := by rw [h]; decide
   have e3 : (x.name.toList == [117, 110, 105, 116]) = false := by rw [h]; decide
   have e4 : (x.name.toList == [108, 105, 115, 116]) = false := by rw [h]; decide
   have e5 : (x.name.toList == [114, 101, 102]) = false := by rw [h]; decide
   have e6 : (x.name.toList == [45, 62]) = false := by rw [h]; decide
   have e7 : (x.name.toList == [42]) = false := by rw [h]; decide
   refine FI PM Tryz.func92 Tryz.ntmps92 [] rfl rfl ?_
   (have hWf := w10 @TyI.enc_eq @e0 @e1 @e2 @e3 @e4 @e5 @e6 @e7 (ai @li_t <| ai @lb_t <| ai @ls_t <| ai @lu_t <| ai @ll_t <| ai @lr_t <| ai @la_t <| @lm_t); repeat' (first | refine zS ?_ | refine zI ?_ ?_ | exact zF0 | refine zD fun hb => ?_ | exact zC | refine zT ?_ | fail))
  ·have hg : gvM x.name = 0 := by unfold gvM; rw [h]; decide
   rw [hk (by omega), hg]
   have e0 : (x.name.toList == [105, 110, 116]) = false := by rw [h]; decide
   have e1 : (x.name.toList == [98, 111, 111, 108]) = false := by rw [h]; decide
   have e2 : (x.name.toList == [115, 116, 114, 105, 110, 103]) = false := by rw [h]; decide
   have e3 : (x.name.toList == [117, 110, 105, 116]) = true := by rw [h]; decide
   have e4 : (x.name.toList == [108, 105, 115, 116]) = false := by rw [h]; decide
   have e5 : (x.name.toList == [114, 101, 102]) = false := by rw [h]; decide
   have e6 : (x.name.toList == [45, 62]) = false := by rw [h]; decide
   have e7 : (x.name.toList == [42]) = false := by rw [h]; decide
   refine FI PM Tryz.func92 Tryz.ntmps92 [] rfl rfl ?_
   (have hWf := w10 @TyI.enc_eq @e0 @e1 @e2 @e3 @e4 @e5 @e6 @e7 (ai @li_t <| ai @lb_t <| ai @ls_t <| ai @lu_t <| ai @ll_t <| ai @lr_t <| ai @la_t <| @lm_t); repeat' (first | refine zS ?_ | refine zI ?_ ?_ | exact zF0 | refine zD fun hb => ?_ | exact zC | refine zT ?_ | fail))
  ·have hg : gvM x.name = 1 := by unfold gvM; rw [h]; decide
   rw [hk (by omega), hg]
   have e0 : (x.name.toList == [105, 110, 116]) = false := by rw [h]; decide
   have e1 : (x.name.toList == [98, 111, 111, 108]) = false := by rw [h]; decide
   have e2 : (x.name.toList == [115, 116, 114, 105, 110, 103]) = false := by rw [h]; decide
   have e3 : (x.name.toList == [117, 110, 105, 116]) = false := by rw [h]; decide
   have e4 : (x.name.toList == [108, 105, 115, 116]) = true := by rw [h]; decide
   have e5 : (x.name.toList == [114, 101, 102]) = false := by rw [h]; decide
   have e6 : (x.name.toList == [45, 62]) = false := by rw [h]; decide
   have e7 : (x.name.toList == [42]) = false := by rw [h]; decide
   refine FI PM Tryz.func92 Tryz.ntmps92 [] rfl rfl ?_
   (have hWf := w10 @TyI.enc_eq @e0 @e1 @e2 @e3 @e4 @e5 @e6 @e7 (ai @li_t <| ai @lb_t <| ai @ls_t <| ai @lu_t <| ai @ll_t <| ai @lr_t <| ai @la_t <| @lm_t); repeat' (first | refine zS ?_ | refine zI ?_ ?_ | exact zF0 | refine zD fun hb => ?_ | exact zC | refine zT ?_ | fail))
  ·have hg : gvM x.name = 1 := by unfold gvM; rw [h]; decide
   rw [hk (by omega), hg]
   have e0 : (x.name.toList == [105, 110, 116]) = false := by rw [h]; decide
   have e1 : (x.name.toList == [98, 111, 111, 108]) = false := by rw [h]; decide
   have e2 : (x.name.toList == [115, 116, 114, 105, 110, 103]) = false := by rw [h]; decide
   have e3 : (x.name.toList == [117, 110, 105, 116]) = false := by rw [h]; decide
   have e4 : (x.name.toList == [108, 105, 115, 116]) = false := by rw [h]; decide
   have e5 : (x.name.toList == [114, 101, 102]) = true := by rw [h]; decide
   have e6 : (x.name.toList == [45, 62]) = false := by rw [h]; decide
   have e7 : (x.name.toList == [42]) = false := by rw [h]; decide
   refine FI PM Tryz.func92 Tryz.ntmps92 [] rfl rfl ?_
   (have hWf := w10 @TyI.enc_eq @e0 @e1 @e2 @e3 @e4 @e5 @e6 @e7 (ai @li_t <| ai @lb_t <| ai @ls_t <| ai @lu_t <| ai @ll_t <| ai @lr_t <| ai @la_t <| @lm_t); repeat' (first | refine zS ?_ | refine zI ?_ ?_ | exact zF0 | refine zD fun hb => ?_ | exact zC | refine zT ?_ | fail))
  ·have hg : gvM x.name = 2 := by unfold gvM; rw [h]; decide
   rw [hk (by omega), hg]
   have e0 : (x.name.toList == [105, 110, 116]) = false := by rw [h]; decide
   have e1 : (x.name.toList == [98, 111, 111, 108]) = false := by rw [h]; decide
   have e2 : (x.name.toList == [115, 116, 114, 105, 110, 103]) = false := by rw [h]; decide
   have e3 : (x.name.toList == [117, 110, 105, 116]) = false := by rw [h]; decide
   have e4 : (x.name.toList == [108, 105, 115, 116]) = false := by rw [h]; decide
   have e5 : (x.name.toList == [114, 101, 102]) = false := by rw [h]; decide
   have e6 : (x.name.toList == [45, 62]) = true := by rw [h]; decide
   have e7 : (x.name.toList == [42]) = false := by rw [h]; decide
   refine FI PM Tryz.func92 Tryz.ntmps92 [] rfl rfl ?_
   (have hWf := w10 @TyI.enc_eq @e0 @e1 @e2 @e3 @e4 @e5 @e6 @e7 (ai @li_t <| ai @lb_t <| ai @ls_t <| ai @lu_t <| ai @ll_t <| ai @lr_t <| ai @la_t <| @lm_t); repeat' (first | refine zS ?_ | refine zI ?_ ?_ | exact zF0 | refine zD fun hb => ?_ | exact zC | refine zT ?_ | fail))
  ·have hg : gvM x.name = 2 := by unfold gvM; rw [h]; decide
   rw [hk (by omega), hg]
   have e0 : (x.name.toList == [105, 110, 116]) = false := by rw [h]; decide
   have e1 : (x.name.toList == [98, 111, 111, 108]) = false := by rw [h]; decide
   have e2 : (x.name.toList == [115, 116, 114, 105, 110, 103]) = false := by rw [h]; decide
   have e3 : (x.name.toList == [117, 110, 105, 116]) = false := by rw [h]; decide
   have e4 : (x.name.toList == [108, 105, 115, 116]) = false := by rw [h]; decide
   have e5 : (x.name.toList == [114, 101, 102]) = false := by rw [h]; decide
   have e6 : (x.name.toList == [45, 62]) = false := by rw [h]; decide
   have e7 : (x.name.toList == [42]) = true := by rw [h]; decide
   refine FI PM Tryz.func92 Tryz.ntmps92 [] rfl rfl ?_
   (have hWf := w10 @TyI.enc_eq @e0 @e1 @e2 @e3 @e4 @e5 @e6 @e7 (ai @li_t <| ai @lb_t <| ai @ls_t <| ai @lu_t <| ai @ll_t <| ai @lr_t <| ai @la_t <| @lm_t); repeat' (first | refine zS ?_ | refine zI ?_ ?_ | exact zF0 | refine zD fun hb => ?_ | exact zC | refine zT ?_ | fail))
 ·have hk : zt ts x = ts.any (isTy x) := by unfold zt; rw [if_neg (by omega)]
  rw [hk]
  have hc := yO ts 144 [.pt x.enc] rfl (isTy x) (fun t _ => xae t x)
  rw [TyI.enc_eq] at hc
  refine FI PM Tryz.func92 Tryz.ntmps92 [] rfl rfl ?_
  iterate 1 (refine xj ?_; simp only [go_sem, simprocAttr, TyI.enc_eq]; (have hWf := w1 @TyI.enc_eq; repeat' (first | refine zY ?_ | refine zI ?_ ?_ | exact zF1 | refine zD fun hb => ?_ | exact zC | refine zT ?_ | fail)))
  refine yS 3 (.box [.s (.int .i64 x.v), .s (.string x.name), .s (.int .i64 x.ar)]) (by simp only [go_sem, simprocAttr]) rfl ?_
  (have hWf := w10 @TyI.enc_eq @h1 @h2 @h3 @h4 @h5 @h6 @h7 @h8 (ai @li_t <| ai @lb_t <| ai @ls_t <| ai @lu_t <| ai @ll_t <| ai @lr_t <| ai @la_t <| @lm_t); repeat' (first | refine zS ?_ | refine zI ?_ ?_ | refine zK hc ?_ | exact zF0 | refine zD fun hb => ?_ | exact zC | refine zT ?_ | fail))
def wP (ts : List MType) (x : TyI) : Bool := !(x.name.toList == []) && !(zt ts x)
theorem c_check2 (p : MProgram) (x : TyI) : FCon Tryz.prog 91 [.ag x.enc, .pt p.enc] (fun r _ => r = .s (.bool (wP p.types x))) := by
 unfold wP
 have hk := c_knownTy p.types x
 rw [TyI.enc_eq] at hk
 have e0 : (⟨#[]⟩ : ByteArray).toList = [] := by rw [ByteArray.toList_eq]
 by_cases hn : x.name.toList = []
 ·have e' : (x.name.toList != []) = false := by simp [hn]
  have e : (!(x.name.toList == []) && !(zt p.types x)) = false := by simp [hn]
  refine FI PM Tryz.func91 Tryz.ntmps91 [] rfl rfl ?_
  (have hWf := w4 @TyI.enc_eq @MProgram.enc_eq @e' @e0; repeat' (first | refine zS ?_ | refine zI ?_ ?_ | refine zK hk ?_ | exact zF0 | refine zD fun hb => ?_ | exact zC | refine zT ?_ | fail))
  all_goals exact sB e
 ·have e' : (x.name.toList != []) = true := by simp [hn]
  have e : (!(x.name.toList == []) && !(zt p.types x)) = !(zt p.types x) := by simp [hn]
  refine FI PM Tryz.func91 Tryz.ntmps91 [] rfl rfl ?_
  (have hWf := w4 @TyI.enc_eq @MProgram.enc_eq @e' @e0; repeat' (first | refine zS ?_ | refine zI ?_ ?_ | refine zK hk ?_ | exact zF0 | refine zD fun hb => ?_ | exact zC | refine zT ?_ | fail))
  all_goals exact sB e
theorem c_check1 (t u : MType) : FCon Tryz.prog 88 [.ag u.enc, .pt t.enc] (fun r _ => r = .s (.bool (u.name.toList == t.name.toList))) := by
 refine FI PM Tryz.func88 Tryz.ntmps88 [] rfl rfl ?_
 (have hWf := w1 @MType.enc_eq; repeat' (first | refine zS ?_ | refine zI ?_ ?_ | exact zF0 | refine zD fun hb => ?_ | exact zC | refine zT ?_ | fail))
theorem Ym (xs : List TyI) (f : FuncId) (caps : List D) (hm : PM.md f = []) (p : TyI -> Bool) (hf : ∀ x ∈ xs, FCon Tryz.prog f (.ag x.enc :: caps) (fun r _ => r = .s (.bool (p x)))) :
  FCon Tryz.prog 143 [.sl 3 (xs.map TyI.enc), .fn f caps] (fun r _ => r = .s (.int .i64 (fidx p xs))) := by
 refine FI PM Tryz.func143 Tryz.ntmps143 [] rfl rfl ?_
 refine x5 0 rfl trivial fun hlen => ?_
 simp only [List.length_map] at hlen
 (have hWf := f0; repeat' (first | refine zS ?_ | refine zI ?_ ?_ | exact zF0 | refine zD fun hb => ?_ | exact zC | refine zT ?_ | fail))
 refine xd (fun n σ => ∃ k : Nat, k <= xs.length /\ n = xs.length - k /\ σ.t 0 = .sl 3 (xs.map TyI.enc) /\ σ.t 1 = .fn f caps /\ σ.t 7 = .s (.int .i64 xs.length) /\ σ.t 8 = .s (.int .i64 k) /\ ∀ x ∈ xs.take k, p x = false) xs.length ⟨0, by omega, by omega, ?_⟩ ?_
 ·simp only [go_sem, simprocAttr, Int.natCast_zero]
  all_goals simp
 ·rintro n σ ⟨k, hk, rfl, h0, h1, h7, h8, hno⟩ K' hK
  by_cases hlt : k < xs.length
  ·have hx := xb TyI.enc xs k hlt
   have he := TyI.enc_eq xs[k]
   have hc := hf xs[k] (List.getElem_mem hlt)
   rw [he] at hc
   cases hp : p xs[k] with
   | true =>
    rw [hp] at hc
    (have hWf := w7 @h0 @h1 @h7 @h8 @hx @he @hm; repeat' (first | refine zS ?_ | refine zI ?_ ?_ | refine zK hc ?_ | exact zF0 | refine zD fun hb => ?_ | exact zC | refine zT ?_ | fail))
    all_goals exact xq (vn p xs k hlt hno hp).symm
   | false =>
    rw [hp] at hc
    (have hWf := w7 @h0 @h1 @h7 @h8 @hx @he @hm; repeat' (first | refine zS ?_ | refine zI ?_ ?_ | refine zK hc ?_ | exact zF0 | refine zD fun hb => ?_ | exact zC | refine zT ?_ | fail))
    refine hK (xs.length - (k + 1)) _ (by omega) ⟨k + 1, by omega, rfl, ?_⟩
    simp only [go_sem, simprocAttr, h0, h1, h7, Int.natCast_succ]
    exact Ze hlt hno hp
  ·obtain rfl : k = xs.length := by omega
   (have hWf := w4 @h0 @h1 @h7 @h8; repeat' (first | refine zS ?_ | refine zI ?_ ?_ | exact zF0 | refine zD fun hb => ?_ | exact zC | refine zT ?_ | fail))
   exact xq (vo p xs (by simpa using hno)).symm
theorem Xo (xs : List TyI) (f : FuncId) (caps : List D) (hm : PM.md f = []) (p : TyI -> Bool) (hf : ∀ x ∈ xs, FCon Tryz.prog f (.ag x.enc :: caps) (fun r _ => r = .s (.bool (p x)))) :
  FCon Tryz.prog 90 [.sl 3 (xs.map TyI.enc), .fn f caps] (fun r _ => r = .s (.bool (xs.any p))) := by
 refine FI PM Tryz.func90 Tryz.ntmps90 [] rfl rfl ?_
 (have hWf := f0; repeat' (first | refine zS ?_ | refine zI ?_ ?_ | refine zK (Ym xs f caps hm p hf) ?_ | exact zF0 | refine zD fun hb => ?_ | exact zC | refine zT ?_ | fail))
 exact sB (vx p xs)
def yw (cs : List MCon) : List ByteArray := cs.map fun c => c.name
def accN (ts : List MType) : List ByteArray := ts.flatMap fun t => yw t.cons
def preL : List ByteArray := [⟨#[105, 110, 116]⟩, ⟨#[98, 111, 111, 108]⟩, ⟨#[115, 116, 114, 105, 110, 103]⟩, ⟨#[117, 110, 105, 116]⟩, ⟨#[108, 105, 115, 116]⟩]
def bad11 (ts : List MType) (k : Nat) (t : MType) : Bool := (ts.take k).any (fun u => u.name.toList == t.name.toList) || inL t.name preL
theorem accN_len (ts : List MType) (h : ∀ t ∈ ts, t.cons.length <= 1048576) : (accN ts).length <= ts.length * 1048576 := by
 induction ts with
 | nil => exact Nat.zero_le _
 | cons t ts ih =>
  have h1 := ih fun x hx => h x (List.mem_cons_of_mem _ hx)
  have h2 := h t (List.mem_cons_self ..)
  unfold accN at *
  rw [List.flatMap_cons, List.length_append, List.length_cons, Nat.add_mul]
  have : (yw t.cons).length = t.cons.length := List.length_map _
  omega
theorem conNs_len (cs : List MCon) : (yw cs).length = cs.length := List.length_map _
structure OkI (ts : List MType) (k : Nat) (t : MType) : Prop where
 nm : bad11 ts k t = false
 dup : ∀ j (h : j < t.cons.length), inL t.cons[j].name (accN (ts.take k) ++ yw (t.cons.take j)) = false
 arg : ∀ c ∈ t.cons, c.arg.any (wP ts) = false
def AllI (ts : List MType) : Prop := ∀ k (h : k < ts.length), OkI ts k ts[k]
theorem QP (p : MProgram) (ho : p.ok) (hs : p.sm) (hp : x4 p = true) : FCon Tryz.prog 43 [.ag p.enc] (fun r _ => ∃ z i : Int, r = .tup [.s (.int .i64 z), .s (.int .i64 i)] /\ (z = 0 ↔ AllI p.types)) := by
 have hc := vR p ho hs
 rw [hp, MProgram.enc_eq] at hc
 have hlt := hs.1.1
 rw [MProgram.enc_eq]
 refine FI PM Tryz.func43 Tryz.ntmps43 [] rfl rfl ?_
 iterate 1 (refine xj ?_; simp only [go_sem, simprocAttr]; (have hWf := f0; repeat' (first | refine zY ?_ | refine zI ?_ ?_ | exact zF1 | refine zD fun hb => ?_ | exact zC | refine zT ?_ | fail)))
 refine yS 1 (.box [.sl 3 (p.types.map MType.enc), .sl 6 (p.nodes.map MNode.enc)]) (by simp only [go_sem, simprocAttr]) rfl ?_
 (have hWf := f0; repeat' (first | refine zS ?_ | refine zI ?_ ?_ | refine zK hc ?_ | exact zF0 | refine zD fun hb => ?_ | exact zC | refine zT ?_ | fail))
 refine xd (fun n σ => ∃ k : Nat, k <= p.types.length /\ n = p.types.length - k /\ (∀ j (h : j < p.types.length), j < k -> OkI p.types j p.types[j]) /\ σ.t 1 = .pt [.sl 3 (p.types.map MType.enc), .sl 6 (p.nodes.map MNode.enc)] /\ σ.t 4 = .bs 15 1 (accN (p.types.take k)).length /\ σ.b 15 = some (.arr 9 1 ((accN (p.types.take k)).map stE)) /\ σ.t 17 = .sl 3 (p.types.map MType.enc) /\ σ.t 18 = .s (.int .i64 p.types.length) /\ σ.t 19 = .s (.int .i64 k)) p.types.length ⟨0, Nat.zero_le _, rfl, fun j _ h => absurd h (Nat.not_lt_zero _), ?_⟩ ?_
 ·simp only [go_sem, simprocAttr, List.take_zero, Int.natCast_zero]
  exact ⟨rfl, rfl⟩
 ·rintro n σ ⟨k, hk, rfl, hok, h1, h4, b15, h17, h18, h19⟩ K' hK
  by_cases hlk : k < p.types.length
  ·obtain ⟨t, ht⟩ : ∃ t, t = p.types[k] := ⟨_, rfl⟩
   have hx := xb MType.enc p.types k hlk
   rw [<- ht] at hx
   have hte := MType.enc_eq t
   have htk : p.types.take (k + 1) = p.types.take k ++ [t] := by rw [ht]; exact List.take_succ_eq_append_getElem hlk
   have hany := yO (p.types.take k) 88 [.pt t.enc] rfl (fun u => u.name.toList == t.name.toList) (fun u _ => c_check1 t u)
   rw [List.map_take, hte] at hany
   have hpre := yu preL t.name
   have hpe : preL.map stE = [[.s (.string ⟨#[105, 110, 116]⟩)], [.s (.string ⟨#[98, 111, 111, 108]⟩)], [.s (.string ⟨#[115, 116, 114, 105, 110, 103]⟩)], [.s (.string ⟨#[117, 110, 105, 116]⟩)], [.s (.string ⟨#[108, 105, 115, 116]⟩)]] := rfl
   rw [hpe] at hpre
   have hsm := hs.1.2 t (by rw [ht]; exact List.getElem_mem hlk)
   iterate 4 (refine xj ?_; simp only [go_sem, simprocAttr, h1, h4, b15, h17, h18, h19, hx, hte]; (have hWf := w8 @h1 @h4 @b15 @h17 @h18 @h19 @hx @hte; repeat' (first | refine zY ?_ | refine zI ?_ ?_ | exact zF1 | refine zD fun hb => ?_ | exact zC | refine zT ?_ | fail)))
   refine yS 6 (.box [.s (.string t.name), .s (.int .i64 t.params), .sl 3 (t.cons.map MCon.enc)]) (by simp only [go_sem, simprocAttr, h1, h4, b15, h17, h18, h19, hx, hte]) rfl ?_
   have hno : ∀ z i : Int, z ≠ 0 -> ¬ OkI p.types k t -> ∃ z' i' : Int, D.tup [.s (.int .i64 z), .s (.int .i64 i)] = D.tup [.s (.int .i64 z'), .s (.int .i64 i')] /\ (z' = 0 ↔ AllI p.types) := fun z i hz hn => ⟨z, i, rfl, fun q => absurd q hz, fun q => absurd (by rw [ht]; exact q k hlk) hn⟩
   rcases Bool.eq_false_or_eq_true ((p.types.take k).any (fun u => u.name.toList == t.name.toList)) with g1 | g1
   ·rw [g1] at hany
    (have hWf := w8 @h1 @h4 @b15 @h17 @h18 @h19 @hx @hte; repeat' (first | refine zS ?_ | refine zI ?_ ?_ | refine zK hany ?_ | exact zF0 | refine zD fun hb => ?_ | exact zC | refine zT ?_ | fail))
    exact hno _ _ (by decide) fun q => by have := q.nm; unfold bad11 at this; rw [g1] at this; cases this
   rw [g1] at hany
   rcases Bool.eq_false_or_eq_true (inL t.name preL) with g2 | g2
   ·rw [g2] at hpre
    (have hWf := w8 @h1 @h4 @b15 @h17 @h18 @h19 @hx @hte; repeat' (first | refine zS ?_ | refine zI ?_ ?_ | refine zK hany ?_ | refine zK hpre ?_ | exact zF0 | refine zD fun hb => ?_ | exact zC | refine zT ?_ | fail))
    exact hno _ _ (by decide) fun q => by have := q.nm; unfold bad11 at this; rw [g1, g2] at this; cases this
   rw [g2] at hpre
   have hnm : bad11 p.types k t = false := by unfold bad11; rw [g1, g2]; rfl
   (have hWf := w8 @h1 @h4 @b15 @h17 @h18 @h19 @hx @hte; repeat' (first | refine zS ?_ | refine zI ?_ ?_ | refine zK hany ?_ | refine zK hpre ?_ | exact zF0 | refine zD fun hb => ?_ | exact zC | refine zT ?_ | fail))
   obtain ⟨A, hA⟩ : ∃ A, A = accN (p.types.take k) := ⟨_, rfl⟩
   have hAl : A.length <= 1099511627776 := by
    rw [hA]
    have := accN_len (p.types.take k) fun u hu => (hs.1.2 u (List.mem_of_mem_take hu)).2.1
    have : (p.types.take k).length <= 1048576 := by rw [List.length_take]; omega
    omega
   have hcl : t.cons.length <= 1048576 := hsm.2.1
   rw [<- hA] at h4 b15
   refine xd (fun n σ => ∃ j : Nat, j <= t.cons.length /\ n = t.cons.length - j /\ (∀ i (h : i < t.cons.length), i < j -> inL t.cons[i].name (A ++ yw (t.cons.take i)) = false) /\ σ.t 1 = .pt [.sl 3 (p.types.map MType.enc), .sl 6 (p.nodes.map MNode.enc)] /\ σ.t 4 = .bs 15 1 (A ++ yw (t.cons.take j)).length /\ σ.b 15 = some (.arr 9 1 ((A ++ yw (t.cons.take j)).map stE)) /\ σ.t 5 = .s (.int .i64 k) /\ σ.t 6 = .pt [.s (.string t.name), .s (.int .i64 t.params), .sl 3 (t.cons.map MCon.enc)] /\ σ.t 17 = .sl 3 (p.types.map MType.enc) /\ σ.t 18 = .s (.int .i64 p.types.length) /\ σ.t 19 = .s (.int .i64 k) /\ σ.t 39 = .sl 3 (t.cons.map MCon.enc) /\ σ.t 40 = .s (.int .i64 t.cons.length) /\ σ.t 41 = .s (.int .i64 j)) t.cons.length ⟨0, Nat.zero_le _, rfl, fun i _ h => absurd h (Nat.not_lt_zero _), ?_⟩ ?_
   ·have hcn : yw [] = [] := rfl
    simp only [go_sem, simprocAttr, h1, h4, b15, h17, h18, h19, hx, hte, List.take_zero, hcn, List.append_nil, Int.natCast_zero]
    done
   ·clear h1 h4 b15 h17 h18 h19
    rintro n σ ⟨j, hj, rfl, hdup, h1, h4, b15, h5, h6, h17, h18, h19, h39, h40, h41⟩ K2 hK2
    by_cases hlj : j < t.cons.length
    ·have hxc := xb MCon.enc t.cons j hlj
     have hce := MCon.enc_eq t.cons[j]
     have hcon := yu (A ++ yw (t.cons.take j)) t.cons[j].name
     have hns : yw (t.cons.take (j + 1)) = yw (t.cons.take j) ++ [t.cons[j].name] := by unfold yw; rw [List.take_succ_eq_append_getElem hlj, List.map_append]; rfl
     rcases Bool.eq_false_or_eq_true (inL t.cons[j].name (A ++ yw (t.cons.take j))) with g3 | g3
     ·rw [g3] at hcon
      (have hWf := w10 @h1 @h4 @b15 @h5 @h6 @h17 @h18 @h19 @h39 (ai @h40 <| ai @h41 <| ai @hxc <| ai @hce <| @yQ); repeat' (first | refine zS ?_ | refine zI ?_ ?_ | refine zK hcon ?_ | exact zF0 | refine zD fun hb => ?_ | exact zC | refine zT ?_ | fail))
      exact hno _ _ (by decide) fun q => by have := q.dup j hlj; rw [<- hA, g3] at this; cases this
     ·rw [g3] at hcon
      have hcnl : (yw (t.cons.take j)).length <= 1048576 := by rw [conNs_len, List.length_take]; omega
      (have hWf := w10 @h1 @h4 @b15 @h5 @h6 @h17 @h18 @h19 @h39 (ai @h40 <| ai @h41 <| ai @hxc <| ai @hce <| @yQ); repeat' (first | refine zS ?_ | refine zI ?_ ?_ | refine zK hcon ?_ | exact zF0 | refine zD fun hb => ?_ | exact zC | refine zT ?_ | fail))
      refine hK2 (t.cons.length - (j + 1)) _ (by omega) ⟨j + 1, by omega, rfl, fun i h hi => ?_, ?_⟩
      ·rcases Nat.lt_or_ge i j with q | q
       ·exact hdup i h q
       ·obtain rfl : i = j := by omega
        exact g3
      ·simp only [go_sem, simprocAttr, h1, h4, b15, h5, h6, h17, h18, h19, h39, h40, h41, hxc, hce, hns, Int.natCast_succ, List.length_append, List.map_append, List.append_assoc]
       exact ⟨rfl, rfl⟩
    ·obtain rfl : j = t.cons.length := by omega
     (have hWf := w10 @h1 @h4 @b15 @h5 @h6 @h17 @h18 @h19 @h39 (ai @h40 <| @h41); repeat' (first | refine zS ?_ | refine zI ?_ ?_ | exact zF0 | refine zD fun hb => ?_ | exact zC | refine zT ?_ | fail))
     rw [List.take_length] at h4 b15
     have hchk : ∀ c : MCon, FCon Tryz.prog 90 [.sl 3 (c.arg.map TyI.enc), .fn 91 [.pt [.sl 3 (p.types.map MType.enc), .sl 6 (p.nodes.map MNode.enc)]]] (fun r _ => r = .s (.bool (c.arg.any (wP p.types)))) := fun c => Xo c.arg 91 [.pt [.sl 3 (p.types.map MType.enc), .sl 6 (p.nodes.map MNode.enc)]] rfl (wP p.types) (fun x _ => by have := c_check2 p x; rw [MProgram.enc_eq] at this; exact this)
     refine xd (fun n σ => ∃ j : Nat, j <= t.cons.length /\ n = t.cons.length - j /\ (∀ i (h : i < t.cons.length), i < j -> t.cons[i].arg.any (wP p.types) = false) /\ σ.t 1 = .pt [.sl 3 (p.types.map MType.enc), .sl 6 (p.nodes.map MNode.enc)] /\ σ.t 4 = .bs 15 1 (A ++ yw t.cons).length /\ σ.b 15 = some (.arr 9 1 ((A ++ yw t.cons).map stE)) /\ σ.t 5 = .s (.int .i64 k) /\ σ.t 17 = .sl 3 (p.types.map MType.enc) /\ σ.t 18 = .s (.int .i64 p.types.length) /\ σ.t 19 = .s (.int .i64 k) /\ σ.t 57 = .sl 3 (t.cons.map MCon.enc) /\ σ.t 58 = .s (.int .i64 t.cons.length) /\ σ.t 59 = .s (.int .i64 j)) t.cons.length ⟨0, Nat.zero_le _, rfl, fun i _ h => absurd h (Nat.not_lt_zero _), ?_⟩ ?_
     ·simp only [go_sem, simprocAttr, h1, h4, b15, h5, h6, h17, h18, h19, Int.natCast_zero]
      done
     ·clear h1 h4 b15 h5 h6 h17 h18 h19 h39 h40 h41
      rintro n σ ⟨j, hj, rfl, harg, h1, h4, b15, h5, h17, h18, h19, h57, h58, h59⟩ K3 hK3
      by_cases hlj : j < t.cons.length
      ·have hxc := xb MCon.enc t.cons j hlj
       have hce := MCon.enc_eq t.cons[j]
       have hck := hchk t.cons[j]
       rcases Bool.eq_false_or_eq_true (t.cons[j].arg.any (wP p.types)) with g3 | g3
       ·rw [g3] at hck
        (have hWf := w10 @h1 @h4 @b15 @h5 @h17 @h18 @h19 @h57 @h58 (ai @h59 <| ai @hxc <| @hce); repeat' (first | refine zS ?_ | refine zI ?_ ?_ | refine zK hck ?_ | exact zF0 | refine zD fun hb => ?_ | exact zC | refine zT ?_ | fail))
        exact hno _ _ (by decide) fun q => by have := q.arg _ (List.getElem_mem hlj); rw [g3] at this; cases this
       ·rw [g3] at hck
        (have hWf := w10 @h1 @h4 @b15 @h5 @h17 @h18 @h19 @h57 @h58 (ai @h59 <| ai @hxc <| @hce); repeat' (first | refine zS ?_ | refine zI ?_ ?_ | refine zK hck ?_ | exact zF0 | refine zD fun hb => ?_ | exact zC | refine zT ?_ | fail))
        refine hK3 (t.cons.length - (j + 1)) _ (by omega) ⟨j + 1, by omega, rfl, fun i h hi => ?_, ?_⟩
        ·rcases Nat.lt_or_ge i j with q | q
         ·exact harg i h q
         ·obtain rfl : i = j := by omega
          exact g3
        ·simp only [go_sem, simprocAttr, h1, h4, b15, h5, h17, h18, h19, h57, h58, h59, hxc, hce, Int.natCast_succ]
         done
      ·obtain rfl : j = t.cons.length := by omega
       (have hWf := w10 @h1 @h4 @b15 @h5 @h17 @h18 @h19 @h57 @h58 @h59; repeat' (first | refine zS ?_ | refine zI ?_ ?_ | exact zF0 | refine zD fun hb => ?_ | exact zC | refine zT ?_ | fail))
       have hacc : accN (p.types.take (k + 1)) = A ++ yw t.cons := by rw [htk, hA]; unfold accN; rw [List.flatMap_append]; simp
       refine hK (p.types.length - (k + 1)) _ (by omega) ⟨k + 1, by omega, rfl, fun i h hi => ?_, ?_⟩
       ·rcases Nat.lt_or_ge i k with q | q
        ·exact hok i h q
        ·obtain rfl : i = k := by omega
         rw [<- ht]
         exact ⟨hnm, fun i h => by rw [<- hA]; exact hdup i h h, fun c hc => by
          obtain ⟨i, hi, rfl⟩ := List.getElem_of_mem hc
          exact harg i hi hi⟩
       ·simp only [go_sem, simprocAttr, h1, h4, b15, h5, h17, h18, h19, h57, h58, h59, hacc, Int.natCast_succ]
        done
  ·obtain rfl : k = p.types.length := by omega
   (have hWf := w6 @h1 @h4 @b15 @h17 @h18 @h19; repeat' (first | refine zS ?_ | refine zI ?_ ?_ | exact zF0 | refine zD fun hb => ?_ | exact zC | refine zT ?_ | fail))
   exact ⟨0, 0, rfl, ⟨fun _ j h => hok j h h, fun _ => rfl⟩⟩
theorem Wl (s : ByteArray) : FCon Tryz.prog 71 [.s (.string s)] (fun r _ => r = .s (.int .i64 (gvM s))) := by
 rcases nameC s with h | ⟨hg, h1, h2, h3, h4, h5, h6, h7, h8⟩
 ·rcases h with h | h | h | h | h | h | h | h
  ·have hg : gvM s = 0 := by unfold gvM; rw [h]; decide
   rw [hg]
   have e0 : (s.toList == [105, 110, 116]) = true := by rw [h]; decide
   have e1 : (s.toList == [98, 111, 111, 108]) = false := by rw [h]; decide
   have e2 : (s.toList == [115, 116, 114, 105, 110, 103]) = false := by rw [h]; decide
   have e3 : (s.toList == [117, 110, 105, 116]) = false := by rw [h]; decide
   have e4 : (s.toList == [108, 105, 115, 116]) = false := by rw [h]; decide
   have e5 : (s.toList == [114, 101, 102]) = false := by rw [h]; decide
   have e6 : (s.toList == [45, 62]) = false := by rw [h]; decide
   have e7 : (s.toList == [42]) = false := by rw [h]; decide
   refine FI PM Tryz.func71 Tryz.ntmps71 [] rfl rfl ?_
   (have hWf := w10 @e0 @e1 @e2 @e3 @e4 @e5 @e6 @e7 @li_t (ai @lb_t <| ai @ls_t <| ai @lu_t <| ai @ll_t <| ai @lr_t <| ai @la_t <| @lm_t); repeat' (first | refine zS ?_ | refine zI ?_ ?_ | exact zF0 | refine zD fun hb => ?_ | exact zC | refine zT ?_ | fail))
  ·have hg : gvM s = 0 := by unfold gvM; rw [h]; decide
   rw [hg]
   have e0 : (s.toList == [105, 110, 116]) = false := by rw [h]; decide
   have e1 : (s.toList == [98, 111, 111, 108]) = true := by rw [h]; decide
   have e2 : (s.toList == [115, 116, 114, 105, 110, 103]) = false := by rw [h]; decide
   have e3 : (s.toList == [117, 110, 105, 116]) = false := by rw [h]; decide
   have e4 : (s.toList == [108, 105, 115, 116]) = false := by rw [h]; decide
   have e5 : (s.toList == [114, 101, 102]) = false := by rw [h]; decide
   have e6 : (s.toList == [45, 62]) = false := by rw [h]; decide
   have e7 : (s.toList == [42]) = false := by rw [h]; decide
   refine FI PM Tryz.func71 Tryz.ntmps71 [] rfl rfl ?_
   (have hWf := w10 @e0 @e1 @e2 @e3 @e4 @e5 @e6 @e7 @li_t (ai @lb_t <| ai @ls_t <| ai @lu_t <| ai @ll_t <| ai @lr_t <| ai @la_t <| @lm_t); repeat' (first | refine zS ?_ | refine zI ?_ ?_ | exact zF0 | refine zD fun hb => ?_ | exact zC | refine zT ?_ | fail))
  ·have hg : gvM s = 0 := by unfold gvM; rw [h]; decide
   rw [hg]
   have e0 : (s.toList == [105, 110, 116]) = false := by rw [h]; decide
   have e1 : (s.toList == [98, 111, 111, 108]) = false := by rw [h]; decide
   have e2 : (s.toList == [115, 116, 114, 105, 110, 103]) = true := by rw [h]; decide
   have e3 : (s.toList == [117, 110, 105, 116]) = false := by rw [h]; decide
   have e4 : (s.toList == [108, 105, 115, 116]) = false := by rw [h]; decide
   have e5 : (s.toList == [114, 101, 102]) = false := by rw [h]; decide
   have e6 : (s.toList == [45, 62]) = false := by rw [h]; decide
   have e7 : (s.toList == [42]) = false := by rw [h]; decide
   refine FI PM Tryz.func71 Tryz.ntmps71 [] rfl rfl ?_
   (have hWf := w10 @e0 @e1 @e2 @e3 @e4 @e5 @e6 @e7 @li_t (ai @lb_t <| ai @ls_t <| ai @lu_t <| ai @ll_t <| ai @lr_t <| ai @la_t <| @lm_t); repeat' (first | refine zS ?_ | refine zI ?_ ?_ | exact zF0 | refine zD fun hb => ?_ | exact zC | refine zT ?_ | fail))
  ·have hg : gvM s = 0 := by unfold gvM; rw [h]; decide
   rw [hg]
   have e0 : (s.toList == [105, 110, 116]) = false := by rw [h]; decide
   have e1 : (s.toList == [98, 111, 111, 108]) = false := by rw [h]; decide
   have e2 : (s.toList == [115, 116, 114, 105, 110, 103]) = false := by rw [h]; decide
   have e3 : (s.toList == [117, 110, 105, 116]) = true := by rw [h]; decide
   have e4 : (s.toList == [108, 105, 115, 116]) = false := by rw [h]; decide
   have e5 : (s.toList == [114, 101, 102]) = false := by rw [h]; decide
   have e6 : (s.toList == [45, 62]) = false := by rw [h]; decide
   have e7 : (s.toList == [42]) = false := by rw [h]; decide
   refine FI PM Tryz.func71 Tryz.ntmps71 [] rfl rfl ?_
   (have hWf := w10 @e0 @e1 @e2 @e3 @e4 @e5 @e6 @e7 @li_t (ai @lb_t <| ai @ls_t <| ai @lu_t <| ai @ll_t <| ai @lr_t <| ai @la_t <| @lm_t); repeat' (first | refine zS ?_ | refine zI ?_ ?_ | exact zF0 | refine zD fun hb => ?_ | exact zC | refine zT ?_ | fail))
  ·have hg : gvM s = 1 := by unfold gvM; rw [h]; decide
   rw [hg]
   have e0 : (s.toList == [105, 110, 116]) = false := by rw [h]; decide
   have e1 : (s.toList == [98, 111, 111, 108]) = false := by rw [h]; decide
   have e2 : (s.toList == [115, 116, 114, 105, 110, 103]) = false := by rw [h]; decide
   have e3 : (s.toList == [117, 110, 105, 116]) = false := by rw [h]; decide
   have e4 : (s.toList == [108, 105, 115, 116]) = true := by rw [h]; decide
   have e5 : (s.toList == [114, 101, 102]) = false := by rw [h]; decide
   have e6 : (s.toList == [45, 62]) = false := by rw [h]; decide
   have e7 : (s.toList == [42]) = false := by rw [h]; decide
   refine FI PM Tryz.func71 Tryz.ntmps71 [] rfl rfl ?_
   (have hWf := w10 @e0 @e1 @e2 @e3 @e4 @e5 @e6 @e7 @li_t (ai @lb_t <| ai @ls_t <| ai @lu_t <| ai @ll_t <| ai @lr_t <| ai @la_t <| @lm_t); repeat' (first | refine zS ?_ | refine zI ?_ ?_ | exact zF0 | refine zD fun hb => ?_ | exact zC | refine zT ?_ | fail))
  ·have hg : gvM s = 1 := by unfold gvM; rw [h]; decide
   rw [hg]
   have e0 : (s.toList == [105, 110, 116]) = false := by rw [h]; decide
   have e1 : (s.toList == [98, 111, 111, 108]) = false := by rw [h]; decide
   have e2 : (s.toList == [115, 116, 114, 105, 110, 103]) = false := by rw [h]; decide
   have e3 : (s.toList == [117, 110, 105, 116]) = false := by rw [h]; decide
   have e4 : (s.toList == [108, 105, 115, 116]) = false := by rw [h]; decide
   have e5 : (s.toList == [114, 101, 102]) = true := by rw [h]; decide
   have e6 : (s.toList == [45, 62]) = false := by rw [h]; decide
   have e7 : (s.toList == [42]) = false := by rw [h]; decide
   refine FI PM Tryz.func71 Tryz.ntmps71 [] rfl rfl ?_
   (have hWf := w10 @e0 @e1 @e2 @e3 @e4 @e5 @e6 @e7 @li_t (ai @lb_t <| ai @ls_t <| ai @lu_t <| ai @ll_t <| ai @lr_t <| ai @la_t <| @lm_t); repeat' (first | refine zS ?_ | refine zI ?_ ?_ | exact zF0 | refine zD fun hb => ?_ | exact zC | refine zT ?_ | fail))
  ·have hg : gvM s = 2 := by unfold gvM; rw [h]; decide
   rw [hg]
   have e0 : (s.toList == [105, 110, 116]) = false := by rw [h]; decide
   have e1 : (s.toList == [98, 111, 111, 108]) = false := by rw [h]; decide
   have e2 : (s.toList == [115, 116, 114, 105, 110, 103]) = false := by rw [h]; decide
   have e3 : (s.toList == [117, 110, 105, 116]) = false := by rw [h]; decide
   have e4 : (s.toList == [108, 105, 115, 116]) = false := by rw [h]; decide
   have e5 : (s.toList == [114, 101, 102]) = false := by rw [h]; decide
   have e6 : (s.toList == [45, 62]) = true := by rw [h]; decide
   have e7 : (s.toList == [42]) = false := by rw [h]; decide
   refine FI PM Tryz.func71 Tryz.ntmps71 [] rfl rfl ?_
   (have hWf := w10 @e0 @e1 @e2 @e3 @e4 @e5 @e6 @e7 @li_t (ai @lb_t <| ai @ls_t <| ai @lu_t <| ai @ll_t <| ai @lr_t <| ai @la_t <| @lm_t); repeat' (first | refine zS ?_ | refine zI ?_ ?_ | exact zF0 | refine zD fun hb => ?_ | exact zC | refine zT ?_ | fail))
  ·have hg : gvM s = 2 := by unfold gvM; rw [h]; decide
   rw [hg]
   have e0 : (s.toList == [105, 110, 116]) = false := by rw [h]; decide
   have e1 : (s.toList == [98, 111, 111, 108]) = false := by rw [h]; decide
   have e2 : (s.toList == [115, 116, 114, 105, 110, 103]) = false := by rw [h]; decide
   have e3 : (s.toList == [117, 110, 105, 116]) = false := by rw [h]; decide
   have e4 : (s.toList == [108, 105, 115, 116]) = false := by rw [h]; decide
   have e5 : (s.toList == [114, 101, 102]) = false := by rw [h]; decide
   have e6 : (s.toList == [45, 62]) = false := by rw [h]; decide
   have e7 : (s.toList == [42]) = true := by rw [h]; decide
   refine FI PM Tryz.func71 Tryz.ntmps71 [] rfl rfl ?_
   (have hWf := w10 @e0 @e1 @e2 @e3 @e4 @e5 @e6 @e7 @li_t (ai @lb_t <| ai @ls_t <| ai @lu_t <| ai @ll_t <| ai @lr_t <| ai @la_t <| @lm_t); repeat' (first | refine zS ?_ | refine zI ?_ ?_ | exact zF0 | refine zD fun hb => ?_ | exact zC | refine zT ?_ | fail))
 ·rw [hg]
  refine FI PM Tryz.func71 Tryz.ntmps71 [] rfl rfl ?_
  (have hWf := w10 @h1 @h2 @h3 @h4 @h5 @h6 @h7 @h8 @li_t (ai @lb_t <| ai @ls_t <| ai @lu_t <| ai @ll_t <| ai @lr_t <| ai @la_t <| @lm_t); repeat' (first | refine zS ?_ | refine zI ?_ ?_ | exact zF0 | refine zD fun hb => ?_ | exact zC | refine zT ?_ | fail))
theorem xak (p : MProgram) (hl : p.types.length <= 1048576) (x : TyI) : FCon Tryz.prog 73 [.ag p.enc, .s (.string x.name), .s (.int .i64 x.ar)] (fun r _ => r = .s (.bool (yY p.types x))) := by
 rw [MProgram.enc_eq]
 refine FI PM Tryz.func73 Tryz.ntmps73 [] rfl rfl ?_
 (have hWf := f0; repeat' (first | refine zS ?_ | refine zI ?_ ?_ | exact zF0 | refine zD fun hb => ?_ | exact zC | refine zT ?_ | fail))
 refine xd (fun n σ => ∃ k : Nat, k <= p.types.length /\ n = p.types.length - k /\ (∀ t ∈ p.types.take k, isTy x t = false) /\ σ.t 1 = .s (.string x.name) /\ σ.t 2 = .s (.int .i64 x.ar) /\ σ.t 10 = .sl 3 (p.types.map MType.enc) /\ σ.t 11 = .s (.int .i64 p.types.length) /\ σ.t 12 = .s (.int .i64 k)) p.types.length ⟨0, Nat.zero_le _, rfl, by simp, ?_⟩ ?_
 ·simp only [go_sem, simprocAttr, Int.natCast_zero]
  done
 ·rintro n σ ⟨k, hk, rfl, hno, h1, h2, h10, h11, h12⟩ K' hK
  by_cases hlk : k < p.types.length
  ·have hx := xb MType.enc p.types k hlk
   have he := MType.enc_eq p.types[k]
   cases hi : isTy x p.types[k] with
   | true =>
    have hi' := hi
    unfold isTy at hi'
    simp only [Bool.and_eq_true] at hi'
    obtain ⟨e1, e2⟩ := hi'
    have hkn : yY p.types x = true := by unfold yY; rw [List.any_eq_true.2 ⟨_, List.getElem_mem hlk, hi⟩]; rfl
    rw [hkn]
    (have hWf := w9 @h1 @h2 @h10 @h11 @h12 @hx @he @e1 @e2; repeat' (first | refine zS ?_ | refine zI ?_ ?_ | exact zF0 | refine zD fun hb => ?_ | exact zC | refine zT ?_ | fail))
   | false =>
    have hstep : ∀ t ∈ p.types.take (k + 1), isTy x t = false := fun t ht => by
     rw [List.take_succ_eq_append_getElem hlk] at ht
     rcases List.mem_append.1 ht with ht | ht
     ·exact hno t ht
     ·rw [List.mem_singleton.1 ht]; exact hi
    have hi' := hi
    unfold isTy at hi'
    rcases Bool.eq_false_or_eq_true (p.types[k].name.toList == x.name.toList) with e1 | e1
    ·have e2 : (p.types[k].params == x.ar) = false := by rw [e1, Bool.true_and] at hi'; exact hi'
     (have hWf := w9 @h1 @h2 @h10 @h11 @h12 @hx @he @e1 @e2; repeat' (first | refine zS ?_ | refine zI ?_ ?_ | exact zF0 | refine zD fun hb => ?_ | exact zC | refine zT ?_ | fail))
     refine hK (p.types.length - (k + 1)) _ (by omega) ⟨k + 1, by omega, rfl, hstep, ?_⟩
     simp only [go_sem, simprocAttr, h1, h2, h10, h11, h12, Int.natCast_succ]
     done
    ·(have hWf := w8 @h1 @h2 @h10 @h11 @h12 @hx @he @e1; repeat' (first | refine zS ?_ | refine zI ?_ ?_ | exact zF0 | refine zD fun hb => ?_ | exact zC | refine zT ?_ | fail))
     refine hK (p.types.length - (k + 1)) _ (by omega) ⟨k + 1, by omega, rfl, hstep, ?_⟩
     simp only [go_sem, simprocAttr, h1, h2, h10, h11, h12, Int.natCast_succ]
     done
  ·obtain rfl : k = p.types.length := by omega
   rw [List.take_length] at hno
   have hkn : yY p.types x = (gvM x.name == x.ar) := by
    unfold yY
    have : p.types.any (isTy x) = false := by rw [List.any_eq_false]; intro t ht; rw [hno t ht]; simp
    rw [this, Bool.false_or]
   rw [hkn]
   (have hWf := w5 @h1 @h2 @h10 @h11 @h12; repeat' (first | refine zS ?_ | refine zI ?_ ?_ | refine zK (Wl x.name) ?_ | exact zF0 | refine zD fun hb => ?_ | exact zC | refine zT ?_ | fail))
theorem accN_mem {ts : List MType} {x : ByteArray} : x ∈ accN ts ↔ ∃ t ∈ ts, ∃ c ∈ t.cons, c.name = x := by
 unfold accN yw
 rw [List.mem_flatMap]
 constructor
 ·rintro ⟨t, ht, hx⟩
  obtain ⟨c, hc, e⟩ := List.mem_map.1 hx
  exact ⟨t, ht, c, hc, e⟩
 ·rintro ⟨t, ht, c, hc, e⟩
  exact ⟨t, ht, List.mem_map.2 ⟨c, hc, e⟩⟩
theorem y4 {a b : ByteArray} : (a.toList == b.toList) = true ↔ a = b := by
 rw [beq_iff_eq, ByteArray.toList_eq, ByteArray.toList_eq]
 exact ⟨fun h => ByteArray.ext (Array.ext' h), fun h => by rw [h]⟩
def earM (ts : List MType) (i k : Nat) : Prop := ∃ (j : Nat) (hj : j < ts.length) (m : Nat) (hm : m < ts[j].cons.length) (hi : i < ts.length) (hk : k < ts[i].cons.length), j <= i /\ ts[j].cons[m].name = ts[i].cons[k].name /\ (j < i \/ m < k)
theorem VP (p : MProgram) (hs : p.sm) (i k : Nat) (hi : i < p.types.length) (hk : k < p.types[i].cons.length) : FCon Tryz.prog 72 [.ag p.enc, .s (.int .i64 i), .s (.int .i64 k)] (fun r _ => ∃ b : Bool, r = .s (.bool b) /\ (b = true ↔ earM p.types i k)) := by
 rw [MProgram.enc_eq]
 have hl := hs.1.1
 have hx := xb MType.enc p.types i hi
 have he := MType.enc_eq p.types[i]
 have hx2 := xb MCon.enc p.types[i].cons k hk
 have he2 := MCon.enc_eq p.types[i].cons[k]
 have hcl := (hs.1.2 _ (List.getElem_mem hi)).2.1
 obtain ⟨nm, hnm⟩ : ∃ nm, nm = p.types[i].cons[k].name := ⟨_, rfl⟩
 rw [<- hnm] at he2
 refine FI PM Tryz.func72 Tryz.ntmps72 [] rfl rfl ?_
 (have hWf := w4 @hx @he @hx2 @he2; repeat' (first | refine zS ?_ | refine zI ?_ ?_ | exact zF0 | refine zD fun hb => ?_ | exact zC | refine zT ?_ | fail))
 refine xd (fun n σ => ∃ j : Nat, j <= i + 1 /\ n = i + 1 - j /\ (∀ (a : Nat) (ha : a < p.types.length) (m : Nat) (hm : m < p.types[a].cons.length), a < j -> p.types[a].cons[m].name = nm -> ¬ (a < i \/ m < k)) /\ σ.t 1 = .s (.int .i64 i) /\ σ.t 2 = .s (.int .i64 k) /\ σ.t 3 = .bx 3 0 /\ σ.b 3 = some (.box [.sl 3 (p.types.map MType.enc), .sl 6 (p.nodes.map MNode.enc)]) /\ σ.t 7 = .s (.string nm) /\ σ.t 8 = .s (.int .i64 j)) (i + 1) ⟨0, Nat.zero_le _, rfl, fun a _ _ _ h => absurd h (Nat.not_lt_zero _), ?_⟩ ?_
 ·simp only [go_sem, simprocAttr, Int.natCast_zero, hx, he, hx2, he2]
  done
 ·rintro n σ ⟨j, hj, rfl, hno, h1, h2, h3, b3, h7, h8⟩ K' hK
  by_cases hji : j <= i
  ·have hjl : j < p.types.length := by omega
   have hxj := xb MType.enc p.types j hjl
   have hej := MType.enc_eq p.types[j]
   have hcj := (hs.1.2 _ (List.getElem_mem hjl)).2.1
   have hle : decide ((j : Int) <= (i : Int)) = true := by simp; omega
   (have hWf := w9 @h1 @h2 @h3 @b3 @h7 @h8 @hxj @hej @hle; repeat' (first | refine zS ?_ | refine zI ?_ ?_ | exact zF0 | refine zD fun hb => ?_ | exact zC | refine zT ?_ | fail))
   refine xd (fun n σ => ∃ m : Nat, m <= p.types[j].cons.length /\ n = p.types[j].cons.length - m /\ (∀ (m' : Nat) (hm : m' < p.types[j].cons.length), m' < m -> p.types[j].cons[m'].name = nm -> ¬ (j < i \/ m' < k)) /\ σ.t 1 = .s (.int .i64 i) /\ σ.t 2 = .s (.int .i64 k) /\ σ.t 3 = .bx 3 0 /\ σ.b 3 = some (.box [.sl 3 (p.types.map MType.enc), .sl 6 (p.nodes.map MNode.enc)]) /\ σ.t 7 = .s (.string nm) /\ σ.t 8 = .s (.int .i64 j) /\ σ.t 31 = .sl 3 (p.types[j].cons.map MCon.enc) /\ σ.t 32 = .s (.int .i64 p.types[j].cons.length) /\ σ.t 33 = .s (.int .i64 m)) p.types[j].cons.length ⟨0, Nat.zero_le _, rfl, fun m' _ h => absurd h (Nat.not_lt_zero _), ?_⟩ ?_
   ·simp only [go_sem, simprocAttr, h1, h2, h3, b3, h7, h8, hxj, hej, Int.natCast_zero]
    done
   ·clear h1 h2 h3 b3 h7 h8
    rintro n σ ⟨m, hm, rfl, hno2, h1, h2, h3, b3, h7, h8, h31, h32, h33⟩ K2 hK2
    by_cases hml : m < p.types[j].cons.length
    ·have hxm := xb MCon.enc p.types[j].cons m hml
     have hem := MCon.enc_eq p.types[j].cons[m]
     have step : (p.types[j].cons[m].name = nm -> ¬ (j < i \/ m < k)) -> ∀ (m' : Nat) (hm : m' < p.types[j].cons.length), m' < m + 1 -> p.types[j].cons[m'].name = nm -> ¬ (j < i \/ m' < k) := fun q m' hm' hlt => by
      rcases Nat.lt_or_ge m' m with q2 | q2
      ·exact hno2 m' hm' q2
      ·obtain rfl : m' = m := by omega
       exact q
     by_cases hn : p.types[j].cons[m].name = nm
     ·have e1 : (p.types[j].cons[m].name.toList == nm.toList) = true := y4.2 hn
      by_cases hji2 : j < i
      ·have e2 : decide ((j : Int) < (i : Int)) = true := by simp; omega
       (have hWf := w10 @h1 @h2 @h3 @b3 @h7 @h8 @h31 @h32 @h33 (ai @hxm <| ai @hem <| ai @e1 <| @e2); repeat' (first | refine zS ?_ | refine zI ?_ ?_ | exact zF0 | refine zD fun hb => ?_ | exact zC | refine zT ?_ | fail))
       exact ⟨true, rfl, fun _ => ⟨j, hjl, m, hml, hi, hk, hji, by rw [hn, hnm], .inl hji2⟩, fun _ => rfl⟩
      ·have e2 : decide ((j : Int) < (i : Int)) = false := by simp; omega
       by_cases hmk : m < k
       ·have e3 : decide ((m : Int) < (k : Int)) = true := by simp; omega
        (have hWf := w10 @h1 @h2 @h3 @b3 @h7 @h8 @h31 @h32 @h33 (ai @hxm <| ai @hem <| ai @e1 <| ai @e2 <| @e3); repeat' (first | refine zS ?_ | refine zI ?_ ?_ | exact zF0 | refine zD fun hb => ?_ | exact zC | refine zT ?_ | fail))
        exact ⟨true, rfl, fun _ => ⟨j, hjl, m, hml, hi, hk, hji, by rw [hn, hnm], .inr hmk⟩, fun _ => rfl⟩
       ·have e3 : decide ((m : Int) < (k : Int)) = false := by simp; omega
        (have hWf := w10 @h1 @h2 @h3 @b3 @h7 @h8 @h31 @h32 @h33 (ai @hxm <| ai @hem <| ai @e1 <| ai @e2 <| @e3); repeat' (first | refine zS ?_ | refine zI ?_ ?_ | exact zF0 | refine zD fun hb => ?_ | exact zC | refine zT ?_ | fail))
        refine hK2 (p.types[j].cons.length - (m + 1)) _ (by omega) ⟨m + 1, by omega, rfl, step (fun _ => by omega), ?_⟩
        simp only [go_sem, simprocAttr, h1, h2, h3, b3, h7, h8, h31, h32, h33, Int.natCast_succ]
        done
     ·have e1 : (p.types[j].cons[m].name.toList == nm.toList) = false := by
       cases q : (p.types[j].cons[m].name.toList == nm.toList) with
       | true => exact absurd (y4.1 q) hn
       | false => rfl
      (have hWf := w10 @h1 @h2 @h3 @b3 @h7 @h8 @h31 @h32 @h33 (ai @hxm <| ai @hem <| @e1); repeat' (first | refine zS ?_ | refine zI ?_ ?_ | exact zF0 | refine zD fun hb => ?_ | exact zC | refine zT ?_ | fail))
      refine hK2 (p.types[j].cons.length - (m + 1)) _ (by omega) ⟨m + 1, by omega, rfl, step (fun q => absurd q hn), ?_⟩
      simp only [go_sem, simprocAttr, h1, h2, h3, b3, h7, h8, h31, h32, h33, Int.natCast_succ]
      done
    ·obtain rfl : m = p.types[j].cons.length := by omega
     (have hWf := w9 @h1 @h2 @h3 @b3 @h7 @h8 @h31 @h32 @h33; repeat' (first | refine zS ?_ | refine zI ?_ ?_ | exact zF0 | refine zD fun hb => ?_ | exact zC | refine zT ?_ | fail))
     refine hK (i + 1 - (j + 1)) _ (by omega) ⟨j + 1, by omega, by omega, fun a ha mm hmm hlt => ?_, ?_⟩
     ·rcases Nat.lt_or_ge a j with q | q
      ·exact hno a ha mm hmm q
      ·obtain rfl : a = j := by omega
       exact hno2 mm hmm hmm
     ·simp only [go_sem, simprocAttr, h1, h2, h3, b3, h7, h8, Int.natCast_succ]
      done
  ·have hle : decide ((j : Int) <= (i : Int)) = false := by simp; omega
   (have hWf := w7 @h1 @h2 @h3 @b3 @h7 @h8 @hle; repeat' (first | refine zS ?_ | refine zI ?_ ?_ | exact zF0 | refine zD fun hb => ?_ | exact zC | refine zT ?_ | fail))
   refine ⟨false, rfl, fun h => (by cases h), fun ⟨a, ha, m, hm, hi', hk', h4, h5, h6⟩ => ?_⟩
   exact absurd h6 (hno a ha m hm (by omega) (by rw [h5, hnm]))
structure OkR (ts : List MType) (k : Nat) (t : MType) : Prop where
 gv : gvM t.name < 0
 nm : ∀ u ∈ ts.take k, u.name ≠ t.name
 dup : ∀ j, j < t.cons.length -> ¬ earM ts k j
 arg : ∀ c ∈ t.cons, ∀ x ∈ c.arg, x.name.toList ≠ [] -> yY ts x = true
def AllR (ts : List MType) : Prop := ∀ k (h : k < ts.length), OkR ts k ts[k]
theorem QT (p : MProgram) (ho : p.ok) (hs : p.sm) (hp : x4 p = true) : FCon Tryz.prog 34 [.ag p.enc] (fun r _ => ∃ z i : Int, r = .tup [.s (.int .i64 z), .s (.int .i64 i)] /\ (z = 0 ↔ AllR p.types)) := by
 have hc := vT p ho hs
 rw [hp, MProgram.enc_eq] at hc
 have hlt := hs.1.1
 have hknw := fun x => xak p hlt x
 rw [MProgram.enc_eq] at hknw
 have hear := VP p hs
 rw [MProgram.enc_eq] at hear
 have e0 : (⟨#[]⟩ : ByteArray).toList = [] := by rw [ByteArray.toList_eq]
 rw [MProgram.enc_eq]
 refine FI PM Tryz.func34 Tryz.ntmps34 [(10, 8, [], [], (lin [] [0, 1, 2, 3, 4, 5, 6, 7]))] rfl rfl ?_
 iterate 1 (refine xj ?_; simp only [go_sem, simprocAttr]; (have hWf := f0; repeat' (first | refine zY ?_ | refine zI ?_ ?_ | exact zF1 | refine zD fun hb => ?_ | exact zC | refine zT ?_ | fail)))
 refine yS 1 (.box [.sl 3 (p.types.map MType.enc), .sl 6 (p.nodes.map MNode.enc)]) (by simp only [go_sem, simprocAttr]) rfl ?_
 (have hWf := f0; repeat' (first | refine zS ?_ | refine zI ?_ ?_ | refine zK hc ?_ | exact zF0 | refine zD fun hb => ?_ | exact zC | refine zT ?_ | fail))
 refine xd (fun n σ => ∃ k : Nat, k <= p.types.length /\ n = p.types.length - k /\ (∀ j (h : j < p.types.length), j < k -> OkR p.types j p.types[j]) /\ σ.t 1 = .pt [.sl 3 (p.types.map MType.enc), .sl 6 (p.nodes.map MNode.enc)] /\ σ.t 17 = .sl 3 (p.types.map MType.enc) /\ σ.t 18 = .s (.int .i64 p.types.length) /\ σ.t 19 = .s (.int .i64 k)) p.types.length ⟨0, Nat.zero_le _, rfl, fun j _ h => absurd h (Nat.not_lt_zero _), ?_⟩ ?_
 ·simp only [go_sem, simprocAttr, Int.natCast_zero]
  done
 ·rintro n σ ⟨k, hk, rfl, hok, h1, h17, h18, h19⟩ K' hK
  by_cases hlk : k < p.types.length
  ·obtain ⟨t, ht⟩ : ∃ t, t = p.types[k] := ⟨_, rfl⟩
   have hx := xb MType.enc p.types k hlk
   rw [<- ht] at hx
   have hte := MType.enc_eq t
   have hsm := hs.1.2 t (by rw [ht]; exact List.getElem_mem hlk)
   have hcl : t.cons.length <= 1048576 := hsm.2.1
   have hno : ∀ z i : Int, z ≠ 0 -> ¬ OkR p.types k t -> ∃ z' i' : Int, D.tup [.s (.int .i64 z), .s (.int .i64 i)] = D.tup [.s (.int .i64 z'), .s (.int .i64 i')] /\ (z' = 0 ↔ AllR p.types) := fun z i hz hn => ⟨z, i, rfl, fun q => absurd q hz, fun q => absurd (by rw [ht]; exact q k hlk) hn⟩
   iterate 4 (refine xj ?_; simp only [go_sem, simprocAttr, h1, h17, h18, h19, hx, hte]; (have hWf := w6 @h1 @h17 @h18 @h19 @hx @hte; repeat' (first | refine zY ?_ | refine zI ?_ ?_ | exact zF1 | refine zD fun hb => ?_ | exact zC | refine zT ?_ | fail)))
   refine yS 5 (.box [.s (.string t.name), .s (.int .i64 t.params), .sl 3 (t.cons.map MCon.enc)]) (by simp only [go_sem, simprocAttr, h1, h17, h18, h19, hx, hte]) rfl ?_
   (have hWf := w6 @h1 @h17 @h18 @h19 @hx @hte; repeat' (first | refine zS ?_ | refine zI ?_ ?_ | refine zK (Wl t.name) ?_ | exact zF0 | refine zD fun hb => ?_ | exact zC | refine zT ?_ | fail))
   refine xd (fun n σ => ∃ (j : Nat) (b : Bool), j <= k /\ n = k - j /\ (b = true ↔ 0 <= gvM t.name \/ ∃ u ∈ p.types.take j, u.name = t.name) /\ σ.t 1 = .pt [.sl 3 (p.types.map MType.enc), .sl 6 (p.nodes.map MNode.enc)] /\ σ.t 4 = .s (.int .i64 k) /\ σ.t 5 = .pt [.s (.string t.name), .s (.int .i64 t.params), .sl 3 (t.cons.map MCon.enc)] /\ σ.t 6 = .s (.bool b) /\ σ.t 7 = .s (.int .i64 j) /\ σ.t 17 = .sl 3 (p.types.map MType.enc) /\ σ.t 18 = .s (.int .i64 p.types.length) /\ σ.t 19 = .s (.int .i64 k)) k ⟨0, decide (gvM t.name ≥ 0), Nat.zero_le _, rfl, by simp, ?_⟩ ?_
   ·simp only [go_sem, simprocAttr, h1, h17, h18, h19, hx, hte, Int.natCast_zero]
    done
   ·clear h1 h17 h18 h19
    rintro n σ ⟨j, b, hj, rfl, hbq, h1, h4, h5, h6, h7, h17, h18, h19⟩ K2 hK2
    by_cases hjk : j < k
    ·have hjl : j < p.types.length := by omega
     have hxj := xb MType.enc p.types j hjl
     have hej := MType.enc_eq p.types[j]
     have hts : p.types.take (j + 1) = p.types.take j ++ [p.types[j]] := List.take_succ_eq_append_getElem hjl
     by_cases hn : p.types[j].name = t.name
     ·have e1 : (p.types[j].name.toList == t.name.toList) = true := y4.2 hn
      (have hWf := w10 @h1 @h4 @h5 @h6 @h7 @h17 @h18 @h19 @hxj (ai @hej <| @e1); repeat' (first | refine zS ?_ | refine zI ?_ ?_ | exact zF0 | refine zD fun hb => ?_ | exact zC | refine zT ?_ | fail))
      refine hK2 (k - (j + 1)) _ (by omega) ⟨j + 1, true, by omega, rfl, ?_, ?_⟩
      ·exact ⟨fun _ => .inr ⟨p.types[j], by rw [hts]; exact List.mem_append_right _ (List.mem_singleton.2 rfl), hn⟩, fun _ => rfl⟩
      ·simp only [go_sem, simprocAttr, h1, h4, h5, h6, h7, h17, h18, h19, Int.natCast_succ]
       done
     ·have e1 : (p.types[j].name.toList == t.name.toList) = false := by
       cases q : (p.types[j].name.toList == t.name.toList) with
       | true => exact absurd (y4.1 q) hn
       | false => rfl
      (have hWf := w10 @h1 @h4 @h5 @h6 @h7 @h17 @h18 @h19 @hxj (ai @hej <| @e1); repeat' (first | refine zS ?_ | refine zI ?_ ?_ | exact zF0 | refine zD fun hb => ?_ | exact zC | refine zT ?_ | fail))
      refine hK2 (k - (j + 1)) _ (by omega) ⟨j + 1, b, by omega, rfl, ?_, ?_⟩
      ·rw [hbq]
       constructor
       ·rintro (q | ⟨u, q1, q2⟩)
        ·exact .inl q
        ·exact .inr ⟨u, by rw [hts]; exact List.mem_append_left _ q1, q2⟩
       ·rintro (q | ⟨u, q1, q2⟩)
        ·exact .inl q
        ·rw [hts] at q1
         rcases List.mem_append.1 q1 with q1 | q1
         ·exact .inr ⟨u, q1, q2⟩
         ·rw [List.mem_singleton.1 q1] at q2; exact absurd q2 hn
      ·simp only [go_sem, simprocAttr, h1, h4, h5, h6, h7, h17, h18, h19, Int.natCast_succ]
       done
    ·obtain rfl : j = k := by omega
     cases b with
     | true =>
      (have hWf := w8 @h1 @h4 @h5 @h6 @h7 @h17 @h18 @h19; repeat' (first | refine zS ?_ | refine zI ?_ ?_ | exact zF0 | refine zD fun hb => ?_ | exact zC | refine zT ?_ | fail))
      refine hno _ _ (by decide) fun q => ?_
      rcases hbq.1 rfl with h | ⟨u, hu, hn⟩
      ·have := q.gv; omega
      ·exact q.nm u hu hn
     | false =>
      have hb0 : ¬ (0 <= gvM t.name \/ ∃ u ∈ p.types.take j, u.name = t.name) := fun q => by have := hbq.2 q; cases this
      (have hWf := w8 @h1 @h4 @h5 @h6 @h7 @h17 @h18 @h19; repeat' (first | refine zS ?_ | refine zI ?_ ?_ | exact zF0 | refine zD fun hb => ?_ | exact zC | refine zT ?_ | fail))
      refine xd (fun n σ => ∃ m : Nat, m <= t.cons.length /\ n = t.cons.length - m /\ (∀ i, i < m -> ¬ earM p.types j i) /\ σ.t 1 = .pt [.sl 3 (p.types.map MType.enc), .sl 6 (p.nodes.map MNode.enc)] /\ σ.t 4 = .s (.int .i64 j) /\ σ.t 5 = .pt [.s (.string t.name), .s (.int .i64 t.params), .sl 3 (t.cons.map MCon.enc)] /\ σ.t 17 = .sl 3 (p.types.map MType.enc) /\ σ.t 18 = .s (.int .i64 p.types.length) /\ σ.t 19 = .s (.int .i64 j) /\ σ.t 46 = .s (.int .i64 t.cons.length) /\ σ.t 47 = .s (.int .i64 m)) t.cons.length ⟨0, Nat.zero_le _, rfl, fun i h => absurd h (Nat.not_lt_zero _), ?_⟩ ?_
      ·simp only [go_sem, simprocAttr, h1, h4, h5, h6, h7, h17, h18, h19, Int.natCast_zero]
       done
      ·clear h1 h4 h5 h6 h7 h17 h18 h19
       rintro n σ ⟨m, hm, rfl, hea, h1, h4, h5, h17, h18, h19, h46, h47⟩ K3 hK3
       by_cases hml : m < t.cons.length
       ·have hE := hear j m hlk (by rw [<- ht]; exact hml)
        (have hWf := w8 @h1 @h4 @h5 @h17 @h18 @h19 @h46 @h47; repeat' (first | refine zS ?_ | refine zI ?_ ?_ | ((with_reducible apply xc); refine xg (hE) ?_; rintro _ _ ⟨b, rfl, hbe⟩) | refine zU hE ?_ | exact zF0 | refine zD fun hb => ?_ | exact zC | refine zT ?_ | fail))
        ·exact hno _ _ (by decide) fun q => q.dup m hml (hbe.1 (by assumption))
        ·have hbt : b = false := by assumption
         refine hK3 (t.cons.length - (m + 1)) _ (by omega) ⟨m + 1, by omega, rfl, fun i h => ?_, ?_⟩
         ·rcases Nat.lt_or_ge i m with q | q
          ·exact hea i q
          ·obtain rfl : i = m := by omega
           exact fun q2 => by have := hbe.2 q2; rw [hbt] at this; cases this
         ·simp only [go_sem, simprocAttr, h1, h4, h5, h17, h18, h19, h46, h47, Int.natCast_succ]
          done
       ·obtain rfl : m = t.cons.length := by omega
        (have hWf := w8 @h1 @h4 @h5 @h17 @h18 @h19 @h46 @h47; repeat' (first | refine zS ?_ | refine zI ?_ ?_ | exact zF0 | refine zD fun hb => ?_ | exact zC | refine zT ?_ | fail))
        refine xd (fun n σ => ∃ m : Nat, m <= t.cons.length /\ n = t.cons.length - m /\ (∀ i (h : i < t.cons.length), i < m -> ∀ x ∈ t.cons[i].arg, x.name.toList ≠ [] -> yY p.types x = true) /\ σ.t 1 = .pt [.sl 3 (p.types.map MType.enc), .sl 6 (p.nodes.map MNode.enc)] /\ σ.t 4 = .s (.int .i64 j) /\ σ.t 17 = .sl 3 (p.types.map MType.enc) /\ σ.t 18 = .s (.int .i64 p.types.length) /\ σ.t 19 = .s (.int .i64 j) /\ σ.t 57 = .sl 3 (t.cons.map MCon.enc) /\ σ.t 58 = .s (.int .i64 t.cons.length) /\ σ.t 59 = .s (.int .i64 m)) t.cons.length ⟨0, Nat.zero_le _, rfl, fun i _ h => absurd h (Nat.not_lt_zero _), ?_⟩ ?_
        ·simp only [go_sem, simprocAttr, h1, h4, h5, h17, h18, h19, Int.natCast_zero]
         done
        ·clear h1 h4 h5 h17 h18 h19 h46 h47
         rintro n σ ⟨m, hm, rfl, harg, h1, h4, h17, h18, h19, h57, h58, h59⟩ K4 hK4
         by_cases hml : m < t.cons.length
         ·have hxc := xb MCon.enc t.cons m hml
          have hce := MCon.enc_eq t.cons[m]
          have hal : t.cons[m].arg.length <= 1048576 := (hsm.2.2 _ (List.getElem_mem hml)).2.1
          (have hWf := w10 @h1 @h4 @h17 @h18 @h19 @h57 @h58 @h59 @hxc @hce; repeat' (first | refine zS ?_ | refine zI ?_ ?_ | exact zF0 | refine zD fun hb => ?_ | exact zC | refine zT ?_ | fail))
          refine xd (fun n σ => ∃ q : Nat, q <= t.cons[m].arg.length /\ n = t.cons[m].arg.length - q /\ (∀ x ∈ t.cons[m].arg.take q, x.name.toList ≠ [] -> yY p.types x = true) /\ σ.t 1 = .pt [.sl 3 (p.types.map MType.enc), .sl 6 (p.nodes.map MNode.enc)] /\ σ.t 4 = .s (.int .i64 j) /\ σ.t 17 = .sl 3 (p.types.map MType.enc) /\ σ.t 18 = .s (.int .i64 p.types.length) /\ σ.t 19 = .s (.int .i64 j) /\ σ.t 57 = .sl 3 (t.cons.map MCon.enc) /\ σ.t 58 = .s (.int .i64 t.cons.length) /\ σ.t 59 = .s (.int .i64 m) /\ σ.t 65 = .sl 3 (t.cons[m].arg.map TyI.enc) /\ σ.t 66 = .s (.int .i64 t.cons[m].arg.length) /\ σ.t 67 = .s (.int .i64 q)) t.cons[m].arg.length ⟨0, Nat.zero_le _, rfl, by simp, ?_⟩ ?_
          ·simp only [go_sem, simprocAttr, h1, h4, h17, h18, h19, h57, h58, h59, hxc, hce, Int.natCast_zero]
           done
          ·clear h1 h4 h17 h18 h19 h57 h58 h59
           rintro n σ ⟨q, hq, rfl, hkn, h1, h4, h17, h18, h19, h57, h58, h59, h65, h66, h67⟩ K5 hK5
           by_cases hql : q < t.cons[m].arg.length
           ·have hxx := xb TyI.enc t.cons[m].arg q hql
            have hxe := TyI.enc_eq t.cons[m].arg[q]
            have hkx := hknw t.cons[m].arg[q]
            have stp : (t.cons[m].arg[q].name.toList ≠ [] -> yY p.types t.cons[m].arg[q] = true) -> ∀ x ∈ t.cons[m].arg.take (q + 1), x.name.toList ≠ [] -> yY p.types x = true := fun g x hx => by
             rw [List.take_succ_eq_append_getElem hql] at hx
             rcases List.mem_append.1 hx with hx | hx
             ·exact hkn x hx
             ·rw [List.mem_singleton.1 hx]; exact g
            by_cases hn : t.cons[m].arg[q].name.toList = []
            ·have e1 : (t.cons[m].arg[q].name.toList == []) = true := by simp [hn]
             (have hWf := w10 @h1 @h4 @h17 @h18 @h19 @h57 @h58 @h59 @h65 (ai @h66 <| ai @h67 <| ai @hxx <| ai @hxe <| ai @e1 <| @e0); repeat' (first | refine zS ?_ | refine zI ?_ ?_ | refine zK hkx ?_ | exact zF0 | refine zD fun hb => ?_ | exact zC | refine zT ?_ | fail))
             refine hK5 (t.cons[m].arg.length - (q + 1)) _ (by omega) ⟨q + 1, by omega, rfl, stp (fun g => absurd hn g), ?_⟩
             simp only [go_sem, simprocAttr, h1, h4, h17, h18, h19, h57, h58, h59, h65, h66, Int.natCast_succ]
             done
            ·have e1 : (t.cons[m].arg[q].name.toList == []) = false := by simpa using hn
             rcases Bool.eq_false_or_eq_true (yY p.types t.cons[m].arg[q]) with g | g
             ·rw [g] at hkx
              (have hWf := w10 @h1 @h4 @h17 @h18 @h19 @h57 @h58 @h59 @h65 (ai @h66 <| ai @h67 <| ai @hxx <| ai @hxe <| ai @e1 <| @e0); repeat' (first | refine zS ?_ | refine zI ?_ ?_ | refine zK hkx ?_ | exact zF0 | refine zD fun hb => ?_ | exact zC | refine zT ?_ | fail))
              refine hK5 (t.cons[m].arg.length - (q + 1)) _ (by omega) ⟨q + 1, by omega, rfl, stp (fun _ => g), ?_⟩
              simp only [go_sem, simprocAttr, h1, h4, h17, h18, h19, h57, h58, h59, h65, h66, Int.natCast_succ]
              done
             ·rw [g] at hkx
              (have hWf := w10 @h1 @h4 @h17 @h18 @h19 @h57 @h58 @h59 @h65 (ai @h66 <| ai @h67 <| ai @hxx <| ai @hxe <| ai @e1 <| @e0); repeat' (first | refine zS ?_ | refine zI ?_ ?_ | refine zK hkx ?_ | exact zF0 | refine zD fun hb => ?_ | exact zC | refine zT ?_ | fail))
              exact hno _ _ (by decide) fun w => by have := w.arg _ (List.getElem_mem hml) _ (List.getElem_mem hql) hn; rw [g] at this; cases this
           ·obtain rfl : q = t.cons[m].arg.length := by omega
            rw [List.take_length] at hkn
            (have hWf := w10 @h1 @h4 @h17 @h18 @h19 @h57 @h58 @h59 @h65 (ai @h66 <| @h67); repeat' (first | refine zS ?_ | refine zI ?_ ?_ | exact zF0 | refine zD fun hb => ?_ | exact zC | refine zT ?_ | fail))
            refine hK4 (t.cons.length - (m + 1)) _ (by omega) ⟨m + 1, by omega, rfl, fun i h hi => ?_, ?_⟩
            ·rcases Nat.lt_or_ge i m with w | w
             ·exact harg i h w
             ·obtain rfl : i = m := by omega
              exact hkn
            ·simp only [go_sem, simprocAttr, h1, h4, h17, h18, h19, h57, h58, Int.natCast_succ]
             done
         ·obtain rfl : m = t.cons.length := by omega
          (have hWf := w8 @h1 @h4 @h17 @h18 @h19 @h57 @h58 @h59; repeat' (first | refine zS ?_ | refine zI ?_ ?_ | exact zF0 | refine zD fun hb => ?_ | exact zC | refine zT ?_ | fail))
          refine hK (p.types.length - (j + 1)) _ (by omega) ⟨j + 1, by omega, rfl, fun i h hi => ?_, ?_⟩
          ·rcases Nat.lt_or_ge i j with w | w
           ·exact hok i h w
           ·obtain rfl : i = j := by omega
            rw [<- ht]
            exact ⟨by omega, fun u hu hn => hb0 (.inr ⟨u, hu, hn⟩), fun i h => hea i h, fun c hc => by
             obtain ⟨i, hi, rfl⟩ := List.getElem_of_mem hc
             exact harg i hi hi⟩
          ·simp only [go_sem, simprocAttr, h1, h4, h17, h18, h19, Int.natCast_succ]
           done
  ·obtain rfl : k = p.types.length := by omega
   (have hWf := w4 @h1 @h17 @h18 @h19; repeat' (first | refine zS ?_ | refine zI ?_ ?_ | exact zF0 | refine zD fun hb => ?_ | exact zC | refine zT ?_ | fail))
   exact ⟨0, 0, rfl, ⟨fun _ j h => hok j h h, fun _ => rfl⟩⟩
end
section
theorem nameM_gv {s : ByteArray} (h : xU s = true) : (gvM s < 0 ↔ inL s preL = false) := by
 unfold xU at h
 rw [Bool.and_eq_true, Bool.and_eq_true] at h
 obtain ⟨⟨hw, hh⟩, hk⟩ := h
 have key : ∀ b : ByteArray, s = b ↔ s.toList = b.toList := fun b => ⟨fun e => by rw [e], fun e => y4.1 (beq_iff_eq.2 e)⟩
 have hr : s.toList ≠ [114, 101, 102] := fun e => by
  have e2 : s = ⟨#[114, 101, 102]⟩ := (key _).2 (by rw [e, lr_t])
  rw [e2] at hk; revert hk; decide
 have ha : s.toList ≠ [45, 62] := fun e => by
  have e2 : s = ⟨#[45, 62]⟩ := (key _).2 (by rw [e, la_t])
  rw [e2] at hh; revert hh; decide
 have hm : s.toList ≠ [42] := fun e => by
  have e2 : s = ⟨#[42]⟩ := (key _).2 (by rw [e, lm_t])
  rw [e2] at hh; revert hh; decide
 have hp : inL s preL = true ↔ (s.toList = [105, 110, 116] \/ s.toList = [98, 111, 111, 108] \/ s.toList = [115, 116, 114, 105, 110, 103] \/ s.toList = [117, 110, 105, 116] \/ s.toList = [108, 105, 115, 116]) := by
  rw [wE]; unfold preL
  simp only [List.mem_cons, List.not_mem_nil, or_false, key, li_t, lb_t, ls_t, lu_t, ll_t]
 rw [Bool.eq_false_iff, Ne, hp]
 unfold gvM
 by_cases h1 : s.toList = [105, 110, 116] \/ s.toList = [98, 111, 111, 108] \/ s.toList = [115, 116, 114, 105, 110, 103] \/ s.toList = [117, 110, 105, 116]
 ·rw [if_pos h1]
  refine ⟨fun q => absurd q (by decide), fun q => absurd ?_ q⟩
  rcases h1 with h | h | h | h <;> simp [h]
 ·rw [if_neg h1]
  by_cases h2 : s.toList = [108, 105, 115, 116] \/ s.toList = [114, 101, 102]
  ·rw [if_pos h2]
   refine ⟨fun q => absurd q (by decide), fun q => absurd ?_ q⟩
   rcases h2 with h | h
   ·simp [h]
   ·exact absurd h hr
  ·rw [if_neg h2, if_neg (by simp [ha, hm])]
   simp only [not_or] at h1 h2
   simp [h1, h2]
theorem dup_iff (ts : List MType) (k j : Nat) (hk : k < ts.length) (hj : j < ts[k].cons.length) : inL ts[k].cons[j].name (accN (ts.take k) ++ yw (ts[k].cons.take j)) = false ↔ ¬ earM ts k j := by
 rw [Bool.eq_false_iff, Ne, wE, List.mem_append, accN_mem]
 refine not_congr ⟨?_, ?_⟩
 ·rintro (⟨t, ht, c, hc, e⟩ | h)
  ·obtain ⟨i, hi, rfl⟩ := List.getElem_of_mem ht
   obtain ⟨m, hm, rfl⟩ := List.getElem_of_mem hc
   have hi2 : i < k /\ i < ts.length := by rw [List.length_take] at hi; omega
   simp only [List.getElem_take] at e hm
   exact ⟨i, hi2.2, m, hm, hk, hj, by omega, e, .inl hi2.1⟩
  ·unfold yw at h
   obtain ⟨c, hc, e⟩ := List.mem_map.1 h
   obtain ⟨m, hm, rfl⟩ := List.getElem_of_mem hc
   have hm2 : m < j /\ m < ts[k].cons.length := by rw [List.length_take] at hm; omega
   simp only [List.getElem_take] at e
   exact ⟨k, hk, m, hm2.2, hk, hj, Nat.le_refl _, e, .inr (by omega)⟩
 ·rintro ⟨i, hi, m, hm, _, _, hle, e, h⟩
  by_cases hik : i < k
  ·refine .inl ⟨ts[i], ?_, ts[i].cons[m], List.getElem_mem _, e⟩
   have hl : i < (ts.take k).length := by rw [List.length_take]; omega
   have := List.getElem_mem hl
   rwa [List.getElem_take] at this
  ·obtain rfl : i = k := by omega
   refine .inr ?_
   unfold yw
   rw [List.mem_map]
   have hl : m < (ts[i].cons.take j).length := by rw [List.length_take]; omega
   have := List.getElem_mem hl
   rw [List.getElem_take] at this
   exact ⟨_, this, e⟩
theorem known_eq (ts : List MType) (x : TyI) (har : 0 <= x.ar) (hg : ∀ t ∈ ts, gvM t.name < 0) : zt ts x = yY ts x := by
 unfold zt yY
 by_cases h : 0 <= gvM x.name
 ·rw [if_pos h]
  have : ts.any (isTy x) = false := by
   rw [List.any_eq_false]
   intro t ht hb
   unfold isTy at hb
   rw [Bool.and_eq_true] at hb
   have := y4.1 hb.1
   have h2 := hg t ht
   rw [this] at h2; omega
  rw [this, Bool.false_or, Bool.beq_comm]
 ·rw [if_neg h]
  have : (gvM x.name == x.ar) = false := by rw [beq_eq_false_iff_ne]; omega
  rw [this, Bool.or_false]
theorem item_ar {x : TyI} (h : xF x = true) : 0 <= x.ar := (XL h).1
theorem con_ar {p : MProgram} (hp : x4 p = true) {t : MType} (ht : t ∈ p.types) {c : MCon} (hc : c ∈ t.cons) {x : TyI} (hx : x ∈ c.arg) : 0 <= x.ar := by
 simp only [x4, Bool.and_eq_true, List.all_eq_true] at hp
 have h1 := hp.1.1.2 t ht
 simp only [yC, Bool.and_eq_true, List.all_eq_true] at h1
 have h2 := h1.2 c hc
 unfold xX at h2
 rw [Bool.and_eq_true] at h2
 have h3 := h2.2
 split at h3
 ·simp only [Bool.and_eq_true] at h3
  have h4 := h3.1
  unfold zq yJ at h4
  simp only [Bool.and_eq_true, List.all_eq_true] at h4
  exact item_ar (h4.2.1 x hx)
 ·have : c.arg.length = 0 := by simpa using h3
  rw [List.length_eq_zero_iff.1 this] at hx
  exact absurd hx List.not_mem_nil
theorem Ui {p : MProgram} (hp : x4 p = true) {t : MType} (ht : t ∈ p.types) : xU t.name = true := by
 simp only [x4, Bool.and_eq_true, List.all_eq_true] at hp
 have h1 := hp.1.1.2 t ht
 simp only [yC, Bool.and_eq_true] at h1
 exact h1.1.1.1.1.1
theorem Yj {ts : List MType} {k : Nat} {t : MType} (hn : xU t.name = true) : bad11 ts k t = false ↔ gvM t.name < 0 /\ ∀ u ∈ ts.take k, u.name ≠ t.name := by
 rw [nameM_gv hn]
 unfold bad11
 rw [Bool.or_eq_false_iff, List.any_eq_false, And.comm]
 refine and_congr_right fun _ => ⟨fun h u hu e => h u hu (y4.2 e), fun h u hu e => h u hu (y4.1 e)⟩
theorem all_IR {p : MProgram} (hp : x4 p = true) : AllI p.types ↔ AllR p.types := by
 have gv : ∀ (P : (∀ k (h : k < p.types.length), gvM p.types[k].name < 0)) (t : MType), t ∈ p.types -> gvM t.name < 0 := by
  intro P t ht
  obtain ⟨i, hi, rfl⟩ := List.getElem_of_mem ht
  exact P i hi
 have arg : (∀ t ∈ p.types, gvM t.name < 0) -> ∀ k (h : k < p.types.length), (∀ c ∈ p.types[k].cons, c.arg.any (wP p.types) = false) ↔ ∀ c ∈ p.types[k].cons, ∀ x ∈ c.arg, x.name.toList ≠ [] -> yY p.types x = true := by
  intro hg k h
  refine forall_congr' fun c => forall_congr' fun hc => ?_
  rw [List.any_eq_false]
  refine forall_congr' fun x => forall_congr' fun hx => ?_
  rw [<- known_eq p.types x (con_ar hp (List.getElem_mem h) hc hx) hg]
  unfold wP
  cases e : zt p.types x <;> simp
 constructor
 ·intro h
  have hg := gv fun k hk => ((Yj (Ui hp (List.getElem_mem hk))).1 (h k hk).nm).1
  intro k hk
  have o := h k hk
  have b := (Yj (Ui hp (List.getElem_mem hk))).1 o.nm
  exact ⟨b.1, b.2, fun j hj => (dup_iff p.types k j hk hj).1 (o.dup j hj), (arg hg k hk).1 o.arg⟩
 ·intro h
  have hg := gv fun k hk => (h k hk).gv
  intro k hk
  have o := h k hk
  exact ⟨(Yj (Ui hp (List.getElem_mem hk))).2 ⟨o.gv, o.nm⟩, fun j hj => (dup_iff p.types k j hk hj).2 (o.dup j hj), (arg hg k hk).2 o.arg⟩
end
end Go.Proofs.YtmnokalddmlogaaGreat
