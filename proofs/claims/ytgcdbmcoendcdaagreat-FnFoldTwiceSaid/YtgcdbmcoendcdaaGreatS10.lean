/- Parts of the proof, laid together: DrAny, DrFold, FoldM, NumWalks, HFoldI, HFoldJ, HFoldR, HProgA. -/
import Derived.BigQuiet
import Derived.Deep.LoopGhost
import Derived.Deep.QuietTactic
import Derived.Deep.RegionLaw
import Derived.Deep.RegionWith
import Derived.Deep.Slices
import Derived.Laws.Cover3
import Derived.Laws.EntriesVeiled
import Derived.Laws.IdiomStrings
import Derived.Laws.StructEq
import Derived.Lib.AppendStr
import Derived.Lib.Hide
import Derived.Lib.SlBytesConst
import Derived.ProofKit
import Derived.Test.YtgcdbmcoendcdaaGreatProg
import Derived.WalkKit
import Derived.Test.YtgcdbmcoendcdaaGreatS9
set_option maxRecDepth 100000
set_option maxHeartbeats 8000000
set_option linter.unusedVariables false
set_option linter.unusedSimpArgs false
namespace Go.Proofs.YtgcdbmcoendcdaaGreat
open Go.RowKit
def wz (r : D) : Prop := ∃ (p : MProgram) (rT rN : List (List D)), r = .ag [.osl 63 3 rT, .osl 55 6 rN] /\ xJ rT = p.types.map MType.enc /\ xJ rN = p.nodes.map MNode.enc /\ p.ok /\ p.sm /\ pvs p <= 1101
theorem GoodR.x {r : D} (h : GoodR r) : wz r := by
 obtain ⟨p, rfl, h⟩ := h
 exact ⟨p, _, _, by rw [MProgram.own_eq], MType.frzS _, MNode.frzS _, h.good.ok, h.good.sm, by have := h.pv; omega⟩
theorem c_l03Q (c : Cur) : FCon Tryz.prog 174 [c.d] (fun r o => (∃ p : MProgram, r = .ag [.osl 63 3 (p.types.map MType.own), .osl 55 6 (p.nodes.map MNode.own)] /\ GoodQ p) /\ ∃ c', o = [Cur.d c']) := (VF c).mono fun r o h => by
 obtain ⟨⟨p, rfl, hp⟩, h2⟩ := h
 exact ⟨⟨p, by rw [MProgram.own_eq], hp⟩, h2⟩
theorem frz_set (rows : List (List D)) (i : Nat) (r : List D) : xJ (rows.set i r) = (xJ rows).set i (frzL r) := by
 rw [yJ, yJ, List.map_set]
theorem Qg {α : Type} (f : α -> Nat) : ∀ (l : List α) (i : Nat) (h : i < l.length) (y : α), sumN f (l.set i y) + f l[i] = sumN f l + f y
 | x :: l, 0, h, y => by show f y + sumN f l + f x = f x + sumN f l + f y; omega
 | x :: l, i + 1, h, y => by
  have := Qg f l i (by simpa using h) y
  have h' : i < l.length := by simpa using h
  show f x + sumN f (l.set i y) + f l[i] = f x + sumN f l + f y
  omega
section
variable {p : MProgram} (hQ : GoodQ p)
include hQ
theorem yk {i : Nat} (hi : i < p.nodes.length) {n' : MNode} {row junk : List D} (hrow : frzL row = n'.enc) (hok : n'.ok) (hsm : n'.sm) (hpv : pvN n' <= pvN p.nodes[i] + 1) : wz (.ag [.osl 63 3 (p.types.map MType.own), .osl 55 6 (List.take p.nodes.length (((p.nodes.map MNode.own).set i junk).set i row))]) := by
 rw [List.take_of_length_le (by rw [List.length_set, List.length_set, List.length_map]; exact Nat.le_refl _)]
 have hg := hQ.good
 refine ⟨⟨p.types, p.nodes.set i n'⟩, _, _, rfl, MType.frzS _, ?_, ⟨hg.ok.1, fun n hn => ?_⟩, ⟨hg.sm.1, ?_, fun n hn => ?_⟩, ?_⟩
 ·rw [List.set_set, frz_set, MNode.frzS, hrow, <- List.map_set]
 ·rcases List.mem_or_eq_of_mem_set hn with h | rfl
  ·exact hg.ok.2 n h
  ·exact hok
 ·show (p.nodes.set i n').length <= _
  rw [List.length_set]; exact hg.sm.2.1
 ·rcases List.mem_or_eq_of_mem_set hn with h | rfl
  ·exact hg.sm.2.2 n h
  ·exact hsm
 ·have h1 := Qg pvN p.nodes i hi n'
  have h2 := hQ.pv
  unfold pvs at *
  show sumN pvN (p.nodes.set i n') <= _
  omega
theorem X2 {t t' : MType} {ts : List MType} (ht : p.types = t :: ts) {rT rN : List (List D)} (hT : xJ rT = (t' :: ts).map MType.enc) (hN : xJ rN = p.nodes.map MNode.enc) (hok : t'.ok) (hsm : t'.sm) : wz (.ag [.osl 63 3 rT, .osl 55 6 rN]) := by
 have hg := hQ.good
 have h1 := hg.ok.1
 have h2 := hg.sm.1
 rw [ht] at h1 h2
 refine ⟨⟨t' :: ts, p.nodes⟩, _, _, rfl, hT, hN, ⟨fun x hx => ?_, hg.ok.2⟩, ⟨⟨h2.1, fun x hx => ?_⟩, hg.sm.2⟩, by have := hQ.pv; show sumN pvN p.nodes <= _; unfold pvs at this; omega⟩
 ·rcases List.mem_cons.1 hx with rfl | hx
  ·exact hok
  ·exact h1 x (List.mem_cons_of_mem _ hx)
 ·rcases List.mem_cons.1 hx with rfl | hx
  ·exact hsm
  ·exact h2.2 x (List.mem_cons_of_mem _ hx)
end
theorem GoodQ.x {p : MProgram} (h : GoodQ p) : wz (.ag [.osl 63 3 (p.types.map MType.own), .osl 55 6 (p.nodes.map MNode.own)]) := by
 have := GoodR.x ⟨p, rfl, h⟩
 rw [MProgram.own_eq] at this
 exact this
theorem c_l04Any0 (c : Cur) : FCon Tryz.prog 175 [c.d] (fun r o => (∃ r', wz r' /\ RA' r r') /\ ∃ c', o = [Cur.d c']) := by
 refine FI PM Tryz.func175 Tryz.ntmps175 [(15, 5, [3], [(3, 0), (3, 1)], (lin [3] [0, 1, 2, 3, 4])), (21, 8, [3], [(3, 0), (3, 1)], (lin [3] [0, 1, 2, 3, 4, 5, 6, 7])), (24, 5, [3], [(3, 0), (3, 1)], (lin [3] [0, 1, 2, 3, 4])), (26, 7, [6], [(6, 0), (6, 1), (6, 2), (6, 3), (6, 4)], (lin [6] [0, 1, 2, 3, 4, 5, 6])), (28, 14, [], [], (lin [] [0, 1, 2, 3, 4, 5, 6, 7, 8, 9, 10, 11, 12, 13]))] rfl rfl ?_
 iterate 2 (refine xA ?_; simp only [go_sem, simprocAttr]; (have hWf := f0; repeat' (first | refine zY ?_ | refine zI ?_ ?_ | ((with_reducible apply xc); refine xm (c_l03Q c) ?_; rintro _ _ ⟨⟨p, rfl, hQ⟩, c1, rfl⟩) | refine zU (c_l03Q c) ?_ | exact zF1 | refine zD fun hb => ?_ | exact zC | refine zT ?_ | fail)))
 obtain ⟨k, c2, k0, k1, B2⟩ := xD c1 (n := 24) (by omega) (by omega)
 (refine xA ?_; simp only [go_sem, simprocAttr]; (have hWf := f0; repeat' (first | refine zY ?_ | refine zI ?_ ?_ | refine zH B2 ?_ | exact zF1 | refine zD fun hb => ?_ | exact zC | refine zT ?_ | fail)))
 by_cases hn : p.nodes.length = 0
 ·have f0 : ((p.nodes.length : Int) == 0) = true := by simp [hn]
  (have hWf := w1 @f0; repeat' (first | refine zS ?_ | refine zI ?_ ?_ | exact zF0 | refine zD fun hb => ?_ | exact zC | refine zT ?_ | fail))
  all_goals first | exact ⟨_, hQ.x, RA'.refl _⟩ | exact ⟨c2, rfl⟩
 have f0 : ((p.nodes.length : Int) == 0) = false := by simpa using hn
 obtain ⟨i, c3, i0, i1, B3⟩ := xD c2 (n := (p.nodes.length : Int)) (by omega) (by have := hQ.good.few; omega)
 obtain ⟨i, rfl⟩ := Int.eq_ofNat_of_zero_le i0
 have hi : i < p.nodes.length := by omega
 iterate 4 (refine xA ?_; simp only [go_sem, simprocAttr, f0]; (have hWf := w1 @f0; repeat' (first | refine zY ?_ | refine zI ?_ ?_ | refine zH B3 ?_ | exact zF1 | refine zD fun hb => ?_ | exact zC | refine zT ?_ | fail)))
 obtain ⟨n, hnn⟩ : ∃ n, n = p.nodes[i] := ⟨_, rfl⟩
 have hmem : n ∈ p.nodes := by rw [hnn]; exact List.getElem_mem hi
 have hkl := (hQ.few n hmem).1
 have hpl := (hQ.few n hmem).2
 have hown := MNode.own_eq n
 have hrow : (p.nodes.map MNode.own)[i]? = some [.s (.int .i64 n.kind), .s (.int .i64 n.at_), .s (.int .i64 n.n), .s (.string n.s), .osl 3 1 (n.kids.map iE), .osl 89 1 (n.pats.map MPat.own)] := by
  rw [List.getElem?_map, List.getElem?_eq_getElem hi, Option.map_some, <- hnn, hown]
 refine Zy 2008 i (e := 55) (k := 6) (rows := p.nodes.map MNode.own) (by simp only [go_sem, simprocAttr]) hrow (vd 2008 4 777 (e := 55) (k := 6) (i := i) (rows := p.nodes.map MNode.own) (rr := [.s (.int .i64 n.kind), .s (.int .i64 n.at_), .s (.int .i64 n.n), .s (.string n.s), .osl 3 1 (n.kids.map iE), .osl 89 1 (n.pats.map MPat.own)]) (d := .osl 3 1 (n.kids.map iE)) (o := .arr 3 1 (n.kids.map iE)) (by simp only [go_sem, simprocAttr]) rfl rfl (by decide) rfl (vd 2008 5 778 (e := 55) (k := 6) (i := i) (rows := p.nodes.map MNode.own) (rr := [.s (.int .i64 n.kind), .s (.int .i64 n.at_), .s (.int .i64 n.n), .s (.string n.s), .bs 777 1 n.kids.length, .osl 89 1 (n.pats.map MPat.own)]) (d := .osl 89 1 (n.pats.map MPat.own)) (o := .arr 89 1 (n.pats.map MPat.own)) (by simp only [go_sem, simprocAttr]) rfl rfl (by decide) rfl ?_))
 (refine xA ?_; simp only [go_sem, simprocAttr]; (have hWf := f0; repeat' (first | refine zY ?_ | refine zI ?_ ?_ | exact zF1 | refine zD fun hb => ?_ | exact zC | refine zT ?_ | fail)))
 refine Us 2008 (e := 55) (k := 6) (i := i) (rows := p.nodes.map MNode.own) (rr := [.s (.int .i64 n.kind), .s (.int .i64 n.at_), .s (.int .i64 n.n), .s (.string n.s), .bs 777 1 n.kids.length, .bs 778 1 n.pats.length]) (by simp only [go_sem, simprocAttr]) fun us => ?_
 obtain ⟨v4, v5, hopq⟩ : ∃ v4 v5 : Value, opqR us [.s (.int .i64 n.kind), .s (.int .i64 n.at_), .s (.int .i64 n.n), .s (.string n.s), .bs 777 1 n.kids.length, .bs 778 1 n.pats.length] = [.s (.int .i64 n.kind), .s (.int .i64 n.at_), .s (.int .i64 n.n), .s (.string n.s), .s v4, .s v5] := ⟨_, _, rfl⟩
 rw [hopq]
 have hln : ((p.nodes.map MNode.own).set i [.s (.int .i64 n.kind), .s (.int .i64 n.at_), .s (.int .i64 n.n), .s (.string n.s), .s v4, .s v5]).length = p.nodes.length := by rw [List.length_set, List.length_map]
 have hgd : ((p.nodes.map MNode.own).set i [.s (.int .i64 n.kind), .s (.int .i64 n.at_), .s (.int .i64 n.n), .s (.string n.s), .s v4, .s v5]).getD i [] = [.s (.int .i64 n.kind), .s (.int .i64 n.at_), .s (.int .i64 n.n), .s (.string n.s), .s v4, .s v5] := by
  rw [List.getD_eq_getElem?_getD, List.getElem?_set_self (by rw [List.length_map]; exact hi)]; rfl
 (refine xA ?_; simp only [go_sem, simprocAttr]; (have hWf := f0; repeat' (first | refine zY ?_ | refine zI ?_ ?_ | exact zF1 | refine zD fun hb => ?_ | exact zC | refine zT ?_ | fail)))
 have hNo := hQ.good.ok.2 n hmem
 have hNs := hQ.good.sm.2.2 n hmem
 have hpv0 : pvN p.nodes[i] = pvN n := by rw [<- hnn]
 obtain ⟨n1, n2, n3, n4, n5, n6⟩ := hNo
 obtain ⟨m1, m2, m3⟩ := hNs
 have hfr : ∀ (kd at_ nn : Int) (s : ByteArray), frzL [.s (.int .i64 kd), .s (.int .i64 at_), .s (.int .i64 nn), .s (.string s), .osl 3 1 (n.kids.map iE), .osl 89 1 (n.pats.map MPat.own)] = (MNode.mk kd at_ nn s n.kids n.pats).enc := fun kd at_ nn s => MNode.frz_eq ⟨kd, at_, nn, s, n.kids, n.pats⟩
 have hsame : xJ (List.take p.nodes.length (((p.nodes.map MNode.own).set i [.s (.int .i64 n.kind), .s (.int .i64 n.at_), .s (.int .i64 n.n), .s (.string n.s), .s v4, .s v5]).set i [.s (.int .i64 n.kind), .s (.int .i64 n.at_), .s (.int .i64 n.n), .s (.string n.s), .osl 3 1 (n.kids.map iE), .osl 89 1 (n.pats.map MPat.own)])) = p.nodes.map MNode.enc := by
  rw [List.take_of_length_le (by rw [List.length_set, List.length_set, List.length_map]; exact Nat.le_refl _), List.set_set, <- hown, hnn, <- List.map_set, List.set_getElem_self, MNode.frzS]
 have hks : k = 0 \/ k = 1 \/ k = 2 \/ k = 3 \/ k = 4 \/ k = 5 \/ k = 6 \/ k = 7 \/ k = 8 \/ k = 9 \/ 9 < k := by omega
 rcases hks with rfl | rfl | rfl | rfl | rfl | rfl | rfl | rfl | rfl | rfl | hk9
 ·obtain ⟨x, c4, x0, x1, B4⟩ := xD c3 (n := 22) (by omega) (by omega)
  (have hWf := w2 @hln @hgd; repeat' (first | refine zS ?_ | refine zI ?_ ?_ | refine zH B4 ?_ | exact zF0 | refine zD fun hb => ?_ | exact zC | refine zT ?_ | fail))
  all_goals first | exact ⟨c4, rfl⟩ | (rw [List.length_set, List.length_set, List.length_map]; first | done | exact Nat.le_refl _) | (refine ⟨_, yk hQ hi (hfr (x - 1) _ _ _) ⟨(⟨by omega, by omega⟩ : I64 (x - 1)), n2, n3, n4, n5, n6⟩ ⟨m1, m2, m3⟩ (by rw [hpv0]; exact Nat.le_succ _), RA'.refl _⟩)
 ·obtain ⟨s, c4, hs, B4⟩ := Uz c3
  (have hWf := w2 @hln @hgd; repeat' (first | refine zS ?_ | refine zI ?_ ?_ | refine zH B4 ?_ | exact zF0 | refine zD fun hb => ?_ | exact zC | refine zT ?_ | fail))
  all_goals first | exact ⟨c4, rfl⟩ | (rw [List.length_set, List.length_set, List.length_map]; first | done | exact Nat.le_refl _) | (refine ⟨_, yk hQ hi (hfr _ _ _ s) ⟨n1, n2, n3, by show s.size <= maxLen; unfold maxLen; omega, n5, n6⟩ ⟨by show s.size <= _; omega, m2, m3⟩ (by rw [hpv0]; exact Nat.le_succ _), RA'.refl _⟩)
 ·obtain ⟨x, c4, hx, B4⟩ := VB c3
  (have hWf := w2 @hln @hgd; repeat' (first | refine zS ?_ | refine zI ?_ ?_ | refine zH B4 ?_ | exact zF0 | refine zD fun hb => ?_ | exact zC | refine zT ?_ | fail))
  all_goals first | exact ⟨c4, rfl⟩ | (rw [List.length_set, List.length_set, List.length_map]; first | done | exact Nat.le_refl _) | (refine ⟨_, yk hQ hi (hfr _ _ x _) ⟨n1, n2, hx, n4, n5, n6⟩ ⟨m1, m2, m3⟩ (by rw [hpv0]; exact Nat.le_succ _), RA'.refl _⟩)
 ·obtain ⟨x, c4, hx, B4⟩ := VB c3
  (have hWf := w2 @hln @hgd; repeat' (first | refine zS ?_ | refine zI ?_ ?_ | refine zX (B4) ?_ | ((with_reducible apply xc); refine xm (B4) ?_; rintro _ _ ⟨rfl, rfl⟩) | exact zF0 | refine zD fun hb => ?_ | exact zC | refine zT ?_ | fail))
  all_goals first | exact ⟨c4, rfl⟩ | (rw [List.length_set, List.length_set, List.length_map]; first | done | exact Nat.le_refl _) | skip
  have e3 := MNode.frz_eq ⟨n.kind, n.at_, n.n, n.s, n.kids ++ [x], n.pats⟩
  rw [MNode.own_eq, List.map_append] at e3
  refine ⟨_, yk hQ hi e3 ⟨n1, n2, n3, n4, fun y hy => by
   rcases List.mem_append.1 hy with hy | hy
   ·exact n5 y hy
   ·rw [List.mem_singleton.1 hy]; exact hx, n6⟩ ⟨m1, ⟨by show (n.kids ++ [x]).length <= _; rw [List.length_append]; simp only [List.length_singleton]; omega, fun _ _ => trivial⟩, m3⟩ (by rw [hpv0]; exact Nat.le_succ _), RA'.refl _⟩
 ·by_cases hk0 : n.kids.length = 0
  ·have f4 : decide ((n.kids.length : Int) > 0) = false := by simp [hk0]
   (have hWf := w3 @hln @hgd @f4; repeat' (first | refine zS ?_ | refine zI ?_ ?_ | exact zF0 | refine zD fun hb => ?_ | exact zC | refine zT ?_ | fail))
   all_goals first | exact ⟨c3, rfl⟩ | (rw [List.length_set, List.length_set, List.length_map]; first | done | exact Nat.le_refl _) | (refine ⟨_, yk hQ hi (hfr _ _ _ _) ⟨n1, n2, n3, n4, n5, n6⟩ ⟨m1, m2, m3⟩ (by rw [hpv0]; exact Nat.le_succ _), RA'.refl _⟩)
  ·have f4 : decide ((n.kids.length : Int) > 0) = true := by simp; omega
   refine ze 26 (.arr 3 1 (n.kids.map iE)) (by simp only [go_sem, simprocAttr]) rfl ?_
   (have hWf := w3 @hln @hgd @f4; repeat' (first | refine zS ?_ | refine zI ?_ ?_ | exact zF0 | refine zD fun hb => ?_ | exact zC | refine zT ?_ | fail))
   all_goals first | exact ⟨c3, rfl⟩ | (rw [List.length_set, List.length_set, List.length_map]; first | done | exact Nat.le_refl _) | skip
   have e4 : frzL [.s (.int .i64 n.kind), .s (.int .i64 n.at_), .s (.int .i64 n.n), .s (.string n.s), .sl 1 (List.drop 1 (n.kids.map iE)), .osl 89 1 (n.pats.map MPat.own)] = (MNode.mk n.kind n.at_ n.n n.s (n.kids.drop 1) n.pats).enc := by
    rw [MNode.enc_eq, List.map_drop]; simp only [frzL, frz, ye MPat.frz_eq]
   refine ⟨_, yk hQ hi e4 ⟨n1, n2, n3, n4, fun y hy => n5 y (List.mem_of_mem_drop hy), n6⟩ ⟨m1, ⟨by show (n.kids.drop 1).length <= _; rw [List.length_drop]; omega, fun _ _ => trivial⟩, m3⟩ (by rw [hpv0]; exact Nat.le_succ _), RA'.refl _⟩
 ·(have hWf := w2 @hln @hgd; repeat' (first | refine zS ?_ | refine zI ?_ ?_ | exact zF0 | refine zD fun hb => ?_ | exact zC | refine zT ?_ | fail))
  all_goals first | exact ⟨c3, rfl⟩ | (rw [List.length_set, List.length_set, List.length_map]; first | done | exact Nat.le_refl _) | (refine ⟨_, yk hQ hi (hfr _ (-1) _ _) ⟨n1, (⟨by omega, by omega⟩ : I64 (-1)), n3, n4, n5, n6⟩ ⟨m1, m2, m3⟩ (by rw [hpv0]; exact Nat.le_succ _), RA'.refl _⟩)
 ·obtain ⟨x, c4, x0, x1, B4⟩ := xD c3 (n := 8) (by omega) (by omega)
  (have hWf := w2 @hln @hgd; repeat' (first | refine zS ?_ | refine zI ?_ ?_ | refine zX (B4) ?_ | ((with_reducible apply xc); refine xm (B4) ?_; rintro _ _ ⟨rfl, rfl⟩) | exact zF0 | refine zD fun hb => ?_ | exact zC | refine zT ?_ | fail))
  all_goals first | exact ⟨c4, rfl⟩ | (rw [List.length_set, List.length_set, List.length_map]; first | done | exact Nat.le_refl _) | skip
  rw [List.take_of_length_le (by rw [List.length_set, List.length_set, List.length_map]; exact Nat.le_refl _)]
  have e6 : frzL [.s (.int .i64 n.kind), .s (.int .i64 n.at_), .s (.int .i64 n.n), .s (.string n.s), .osl 3 1 (n.kids.map iE), .osl 89 1 (n.pats.map MPat.own ++ [[.sl 4 [[.s (.int .i64 x), .s (.int .i64 0), .s (.string ⟨#[120]⟩), .sl 1 []]]]])] = (MNode.mk n.kind n.at_ n.n n.s n.kids (n.pats ++ [⟨[⟨x, 0, ⟨#[120]⟩, []⟩]⟩])).enc := by
   rw [MNode.enc_eq, List.map_append]; simp only [frzL, frz, UP, ye MPat.frz_eq, ye WP]; rfl
  have hq6 := yk hQ hi (junk := [.s (.int .i64 n.kind), .s (.int .i64 n.at_), .s (.int .i64 n.n), .s (.string n.s), .s v4, .s v5]) e6 ⟨n1, n2, n3, n4, n5, fun q hq => by
   rcases List.mem_append.1 hq with hq | hq
   ·exact n6 q hq
   ·rw [List.mem_singleton.1 hq]
    intro y hy
    rw [List.mem_singleton.1 hy]
    exact ⟨(⟨by omega, by omega⟩ : I64 x), (⟨by omega, by omega⟩ : I64 0), (by decide : (⟨#[120]⟩ : ByteArray).size <= maxLen), fun z hz => by cases hz⟩⟩ ⟨m1, m2, by show (n.pats ++ _).length <= _; rw [List.length_append]; simp only [List.length_singleton]; omega, fun q hq => by
   rcases List.mem_append.1 hq with hq | hq
   ·exact m3.2 q hq
   ·rw [List.mem_singleton.1 hq]
    exact ⟨by show 1 <= _; omega, fun y hy => by
     rw [List.mem_singleton.1 hy]
     exact ⟨(by decide : (⟨#[120]⟩ : ByteArray).size <= 1048576), by show 0 <= _; omega, fun _ _ => trivial⟩⟩⟩ (by
   rw [hpv0]
   exact pvN_app1 _ _ _ _ _ _ _)
  rw [List.take_of_length_le (by rw [List.length_set, List.length_set, List.length_map]; exact Nat.le_refl _)] at hq6
  exact ⟨_, hq6, RA'.ag (Rr.cons (RW.refl _) (Rr.cons (RW.osl (RWs.set (Rr.cons (RW.refl _) (Rr.cons (RW.refl _) (Rr.cons (RW.refl _) (Rr.cons (RW.refl _) (Rr.cons (RW.refl _) (Rr.cons (RW.osl (RWs.app (RWs.cons (Rr.cons (RW.sl (RWs.cons (Rr.cons (RW.refl _) (Rr.cons (RW.refl _) (Rr.cons (RW.refl _) (Rr.cons (RW.nilS 1) (Rr.refl _))))) (RWs.refl _))) (Rr.refl _)) (RWs.refl _)))) (Rr.refl _))))))))) (Rr.refl _)))⟩
 ·cases hty : p.types with
  | nil =>
   have f7 : decide ((p.types.length : Int) > 0) = false := by rw [hty]; rfl
   rw [<- hty]
   (have hWf := w3 @hln @hgd @f7; repeat' (first | refine zS ?_ | refine zI ?_ ?_ | exact zF0 | refine zD fun hb => ?_ | exact zC | refine zT ?_ | fail))
   all_goals first | exact ⟨c3, rfl⟩ | (rw [List.length_set, List.length_set, List.length_map]; first | done | exact Nat.le_refl _) | (refine ⟨_, yk hQ hi (hfr _ _ _ _) ⟨n1, n2, n3, n4, n5, n6⟩ ⟨m1, m2, m3⟩ (by rw [hpv0]; exact Nat.le_succ _), RA'.refl _⟩)
  | cons ty ts =>
   have f7 : decide ((p.types.length : Int) > 0) = true := by rw [hty]; simp
   obtain ⟨x, c4, x0, x1, B4⟩ := xD c3 (n := 5) (by omega) (by omega)
   have hto := MType.own_eq ty
   (have hWf := w4 @hln @hgd @f7 @hto; repeat' (first | refine zS ?_ | refine zI ?_ ?_ | refine zX (B4) ?_ | ((with_reducible apply xc); refine xm (B4) ?_; rintro _ _ ⟨rfl, rfl⟩) | exact zF0 | refine zD fun hb => ?_ | exact zC | refine zT ?_ | fail))
   all_goals first | exact ⟨c4, rfl⟩ | (rw [List.length_set, List.length_set, List.length_map]; first | done | exact Nat.le_refl _) | skip
   obtain ⟨t1, t2, t3⟩ := hQ.good.ok.1 ty (by rw [hty]; exact List.mem_cons_self ..)
   have s1 := hQ.good.sm.1.2 ty (by rw [hty]; exact List.mem_cons_self ..)
   have e7 := MType.frz_eq ⟨ty.name, x - 1, ty.cons⟩
   rw [MType.own_eq] at e7
   exact ⟨_, X2 hQ hty (t' := ⟨ty.name, x - 1, ty.cons⟩) (by rw [vz, MType.frzS, List.map_cons]; exact congrArg (· :: _) e7) hsame ⟨t1, (⟨by omega, by omega⟩ : I64 (x - 1)), t3⟩ s1, RA'.refl _⟩
 ·cases hty : p.types with
  | nil =>
   have f7 : decide ((p.types.length : Int) > 0) = false := by rw [hty]; rfl
   rw [<- hty]
   (have hWf := w3 @hln @hgd @f7; repeat' (first | refine zS ?_ | refine zI ?_ ?_ | exact zF0 | refine zD fun hb => ?_ | exact zC | refine zT ?_ | fail))
   all_goals first | exact ⟨c3, rfl⟩ | (rw [List.length_set, List.length_set, List.length_map]; first | done | exact Nat.le_refl _) | (refine ⟨_, yk hQ hi (hfr _ _ _ _) ⟨n1, n2, n3, n4, n5, n6⟩ ⟨m1, m2, m3⟩ (by rw [hpv0]; exact Nat.le_succ _), RA'.refl _⟩)
  | cons ty ts =>
   have f7 : decide ((p.types.length : Int) > 0) = true := by rw [hty]; simp
   have hto := MType.own_eq ty
   obtain ⟨t1, t2, t3⟩ := hQ.good.ok.1 ty (by rw [hty]; exact List.mem_cons_self ..)
   obtain ⟨s1, s2, s3⟩ := hQ.good.sm.1.2 ty (by rw [hty]; exact List.mem_cons_self ..)
   have hc1 := hQ.good.con ty (by rw [hty]; exact List.mem_cons_self ..)
   obtain ⟨nm, pr, cons⟩ := ty
   obtain ⟨c0, cs, rfl⟩ : ∃ c0 cs, cons = c0 :: cs := by
    cases cons with
    | nil => simp at hc1
    | cons a b => exact ⟨a, b, rfl⟩
   have hco := MCon.own_eq c0
   obtain ⟨u1, -, u3⟩ := t3 c0 (List.mem_cons_self ..)
   obtain ⟨w1, w2⟩ := s3 c0 (List.mem_cons_self ..)
   obtain ⟨s, c4, hs, B4⟩ := Uz c3
   refine W0 1008 0 2 888 (e := 63) (k := 3) (rows := (MType.mk nm pr (c0 :: cs)).own :: ts.map MType.own) (row := [.s (.string nm), .s (.int .i64 pr), .osl 68 3 (c0.own :: cs.map MCon.own)]) (d := .osl 68 3 (c0.own :: cs.map MCon.own)) (o := .arr 68 3 (c0.own :: cs.map MCon.own)) (by simp only [go_sem, simprocAttr]) (by rw [hto]; rfl) rfl rfl (by decide) rfl ?_
   iterate 31 (refine xA ?_; simp only [go_sem, simprocAttr, hln, hgd, f7, hto, hco]; (have hWf := w5 @hln @hgd @f7 @hto @hco; repeat' (first | refine zY ?_ | refine zI ?_ ?_ | refine zX (B4) ?_ | ((with_reducible apply xc); refine xm (B4) ?_; rintro _ _ ⟨rfl, rfl⟩) | exact zF1 | refine zD fun hb => ?_ | exact zC | refine zT ?_ | fail)))
   refine Vh 1008 888 (e := 63) (k := 3) (i := 0) (j := 2) (rows := (MType.mk nm pr (c0 :: cs)).own :: ts.map MType.own) (r := .bs 888 3 (cs.length + 1)) (d := .osl 68 3 ([.s (.string s), .s (.bool c0.has), .osl 159 3 (c0.arg.map TyI.own)] :: cs.map MCon.own)) (ob := 3 = 3 /\ cs.length + 1 <= ([.s (.string s), .s (.bool c0.has), .osl 159 3 (c0.arg.map TyI.own)] :: cs.map MCon.own).length) (by simp only [go_sem, simprocAttr, hto, hco]) (by simp only [go_sem, simprocAttr, hto, hco]) ⟨rfl, by simp⟩ rfl (by decide) ?_
   (have hWf := w5 @hln @hgd @f7 @hto @hco; repeat' (first | refine zS ?_ | refine zI ?_ ?_ | exact zF0 | refine zD fun hb => ?_ | exact zC | refine zT ?_ | fail))
   all_goals first | exact ⟨c4, rfl⟩ | (rw [List.length_set, List.length_set, List.length_map]; first | done | exact Nat.le_refl _) | skip
   have e8 := MType.frz_eq ⟨nm, pr, ⟨s, c0.has, c0.arg⟩ :: cs⟩
   rw [MType.own_eq, List.map_cons, MCon.own_eq] at e8
   exact ⟨_, X2 hQ hty (t' := ⟨nm, pr, ⟨s, c0.has, c0.arg⟩ :: cs⟩) (by rw [vz, MType.frzS, List.map_cons]; exact congrArg (· :: _) e8) hsame ⟨t1, t2, fun y hy => by
    rcases List.mem_cons.1 hy with rfl | hy
    ·exact ⟨by show s.size <= maxLen; unfold maxLen; omega, trivial, u3⟩
    ·exact t3 y (List.mem_cons_of_mem _ hy)⟩ ⟨s1, s2, fun y hy => by
    rcases List.mem_cons.1 hy with rfl | hy
    ·exact ⟨by show s.size <= _; omega, w2⟩
    ·exact s3 y (List.mem_cons_of_mem _ hy)⟩, RA'.refl _⟩
 ·cases hty : p.types with
  | nil =>
   have f7 : decide ((p.types.length : Int) > 0) = false := by rw [hty]; rfl
   rw [<- hty]
   (have hWf := w3 @hln @hgd @f7; repeat' (first | refine zS ?_ | refine zI ?_ ?_ | exact zF0 | refine zD fun hb => ?_ | exact zC | refine zT ?_ | fail))
   all_goals first | exact ⟨c3, rfl⟩ | (rw [List.length_set, List.length_set, List.length_map]; first | done | exact Nat.le_refl _) | (refine ⟨_, yk hQ hi (hfr _ _ _ _) ⟨n1, n2, n3, n4, n5, n6⟩ ⟨m1, m2, m3⟩ (by rw [hpv0]; exact Nat.le_succ _), RA'.refl _⟩)
  | cons ty ts =>
   have f7 : decide ((p.types.length : Int) > 0) = true := by rw [hty]; simp
   have hto := MType.own_eq ty
   obtain ⟨t1, t2, t3⟩ := hQ.good.ok.1 ty (by rw [hty]; exact List.mem_cons_self ..)
   obtain ⟨s1, s2, s3⟩ := hQ.good.sm.1.2 ty (by rw [hty]; exact List.mem_cons_self ..)
   have hc1 := hQ.good.con ty (by rw [hty]; exact List.mem_cons_self ..)
   obtain ⟨nm, pr, cons⟩ := ty
   obtain ⟨c0, cs, rfl⟩ : ∃ c0 cs, cons = c0 :: cs := by
    cases cons with
    | nil => simp at hc1
    | cons a b => exact ⟨a, b, rfl⟩
   have hco := MCon.own_eq c0
   obtain ⟨u1, -, u3⟩ := t3 c0 (List.mem_cons_self ..)
   obtain ⟨w1, w2⟩ := s3 c0 (List.mem_cons_self ..)
   refine W0 1008 0 2 888 (e := 63) (k := 3) (rows := (MType.mk nm pr (c0 :: cs)).own :: ts.map MType.own) (row := [.s (.string nm), .s (.int .i64 pr), .osl 68 3 (c0.own :: cs.map MCon.own)]) (d := .osl 68 3 (c0.own :: cs.map MCon.own)) (o := .arr 68 3 (c0.own :: cs.map MCon.own)) (by simp only [go_sem, simprocAttr]) (by rw [hto]; rfl) rfl rfl (by decide) rfl ?_
   iterate 31 (refine xA ?_; simp only [go_sem, simprocAttr, hln, hgd, f7, hto, hco]; (have hWf := w5 @hln @hgd @f7 @hto @hco; repeat' (first | refine zY ?_ | refine zI ?_ ?_ | exact zF1 | refine zD fun hb => ?_ | exact zC | refine zT ?_ | fail)))
   refine Vh 1008 888 (e := 63) (k := 3) (i := 0) (j := 2) (rows := (MType.mk nm pr (c0 :: cs)).own :: ts.map MType.own) (r := .bs 888 3 (cs.length + 1)) (d := .osl 68 3 ([.s (.string c0.name), .s (.bool (!c0.has)), .osl 159 3 (c0.arg.map TyI.own)] :: cs.map MCon.own)) (ob := 3 = 3 /\ cs.length + 1 <= ([.s (.string c0.name), .s (.bool (!c0.has)), .osl 159 3 (c0.arg.map TyI.own)] :: cs.map MCon.own).length) (by simp only [go_sem, simprocAttr, hto, hco]) (by simp only [go_sem, simprocAttr, hto, hco]) ⟨rfl, by simp⟩ rfl (by decide) ?_
   (have hWf := w5 @hln @hgd @f7 @hto @hco; repeat' (first | refine zS ?_ | refine zI ?_ ?_ | exact zF0 | refine zD fun hb => ?_ | exact zC | refine zT ?_ | fail))
   all_goals first | exact ⟨c3, rfl⟩ | (rw [List.length_set, List.length_set, List.length_map]; first | done | exact Nat.le_refl _) | skip
   have e8 := MType.frz_eq ⟨nm, pr, ⟨c0.name, !c0.has, c0.arg⟩ :: cs⟩
   rw [MType.own_eq, List.map_cons, MCon.own_eq] at e8
   exact ⟨_, X2 hQ hty (t' := ⟨nm, pr, ⟨c0.name, !c0.has, c0.arg⟩ :: cs⟩) (by rw [vz, MType.frzS, List.map_cons]; exact congrArg (· :: _) e8) hsame ⟨t1, t2, fun y hy => by
    rcases List.mem_cons.1 hy with rfl | hy
    ·exact ⟨u1, trivial, u3⟩
    ·exact t3 y (List.mem_cons_of_mem _ hy)⟩ ⟨s1, s2, fun y hy => by
    rcases List.mem_cons.1 hy with rfl | hy
    ·exact ⟨w1, w2⟩
    ·exact s3 y (List.mem_cons_of_mem _ hy)⟩, RA'.refl _⟩
 ·have g0 := kF (k := k) (z := 0) (by omega)
  have g1 := kF (k := k) (z := 1) (by omega)
  have g2 := kF (k := k) (z := 2) (by omega)
  have g3 := kF (k := k) (z := 3) (by omega)
  have g4 := kF (k := k) (z := 4) (by omega)
  have g5 := kF (k := k) (z := 5) (by omega)
  have g6 := kF (k := k) (z := 6) (by omega)
  have g7 := kF (k := k) (z := 7) (by omega)
  have g8 := kF (k := k) (z := 8) (by omega)
  have g9 := kF (k := k) (z := 9) (by omega)
  (have hWf := w12 @hln @hgd @g0 @g1 @g2 @g3 @g4 @g5 @g6 @g7 @g8 @g9; repeat' (first | refine zS ?_ | refine zI ?_ ?_ | exact zF0 | refine zD fun hb => ?_ | exact zC | refine zT ?_ | fail))
  all_goals first | exact ⟨c3, rfl⟩ | (rw [List.length_set, List.length_set, List.length_map]; first | done | exact Nat.le_refl _) | (refine ⟨_, yk hQ hi (hfr _ _ _ _) ⟨n1, n2, n3, n4, n5, n6⟩ ⟨m1, m2, m3⟩ (by rw [hpv0]; exact Nat.le_succ _), RA'.refl _⟩)
theorem c_l04Any (c : Cur) : FCon Tryz.prog 175 [c.d] (fun r o => wz r /\ ∃ c', o = [Cur.d c']) := FCon.wa (R := wz) (Q := fun o => ∃ c', o = [Cur.d c']) (c_l04Any0 c)
theorem XW (s : ByteArray) (hs : s.size <= 1100) : FCon Tryz.prog 54 [.s (.string s)] (fun r _ => ∃ (p : MProgram) (z a : Int), r = .tup [.ag [.osl 63 3 (p.types.map MType.own), .osl 55 6 (p.nodes.map MNode.own)], .s (.int .i64 z), .s (.int .i64 a)] /\ GoodQ p) := by
 have hp := Xp s (by omega)
 have hq := spar_q s hs
 rw [MProgram.own_eq] at hp
 exact hp.mono fun r o e => ⟨_, _, _, e, hq⟩
theorem Wz (c : Cur) : FCon Tryz.prog 174 [c.d] (fun r o => (∃ (p : MProgram) (rT rN : List (List D)), r = .ag [.osl 63 3 rT, .osl 55 6 rN] /\ wz r) /\ ∃ c', o = [Cur.d c']) := (c_l03Q c).mono fun r o h => by
 obtain ⟨⟨p, rfl, hp⟩, h2⟩ := h
 exact ⟨⟨p, _, _, rfl, hp.x⟩, h2⟩
theorem XB (c : Cur) : FCon Tryz.prog 175 [c.d] (fun r o => (∃ (rT rN : List (List D)), r = .ag [.osl 63 3 rT, .osl 55 6 rN] /\ wz r) /\ ∃ c', o = [Cur.d c']) := (c_l04Any c).mono fun r o h => by
 obtain ⟨h1, h2⟩ := h
 have h1' := h1
 obtain ⟨p, rT, rN, rfl, -⟩ := h1'
 exact ⟨⟨rT, rN, rfl, h1⟩, h2⟩
theorem c_l08Any (c : Cur) : FCon Tryz.prog 94 [c.d] (fun r o => wz r /\ ∃ c', o = [Cur.d c']) := by
 refine FI PM Tryz.func94 Tryz.ntmps94 [] rfl rfl ?_
 iterate 2 (refine xA ?_; simp only [go_sem, simprocAttr]; (have hWf := f0; repeat' (first | refine zY ?_ | refine zI ?_ ?_ | ((with_reducible apply xc); refine xm (UG c) ?_; rintro _ _ ⟨⟨s, rfl, hs⟩, c1, rfl⟩) | refine zU (UG c) ?_ | ((with_reducible apply xc); refine xm (XW s (by omega)) ?_; rintro _ _ ⟨p, z, a, rfl, hq⟩) | refine zU (XW s (by omega)) ?_ | exact zF1 | refine zD fun hb => ?_ | exact zC | refine zT ?_ | fail)))
 obtain ⟨y, c2, y0, y1, B2⟩ := xD c1 (n := 3) (by omega) (by omega)
 have tail : ∀ c3 : Cur, ∃ (v : Int) (c4 : Cur), 0 <= v /\ v < 20 /\ FCon Tryz.prog 53 [c3.d, .s (.int .i64 20)] (fun r o => r = .s (.int .i64 v) /\ o = [c4.d, .un]) := fun c3 => xD c3 (n := 20) (by omega) (by omega)
 rcases Bool.eq_false_or_eq_true (z != 0) with hz | hz
 ·iterate 3 (refine xA ?_; simp only [go_sem, simprocAttr, hz]; (have hWf := w1 @hz; repeat' (first | refine zY ?_ | refine zI ?_ ?_ | ((with_reducible apply xc); refine xm (Wz c1) ?_; rintro _ _ ⟨⟨p', rT, rN, rfl, hx⟩, c3, rfl⟩) | refine zU (Wz c1) ?_ | exact zF1 | refine zD fun hb => ?_ | exact zC | refine zT ?_ | fail)))
  obtain ⟨v, c4, v0, v1, B4⟩ := tail c3
  by_cases hv : v = 0
  ·have f4 := kT' hv
   (have hWf := w1 @f4; repeat' (first | refine zS ?_ | refine zI ?_ ?_ | refine zH B4 ?_ | ((with_reducible apply xc); refine xm (XB c4) ?_; rintro _ _ ⟨⟨rT', rN', rfl, hx'⟩, c5, rfl⟩) | refine zU (XB c4) ?_ | exact zF0 | refine zD fun hb => ?_ | exact zC | refine zT ?_ | fail))
   all_goals first | exact hx' | exact ⟨c5, rfl⟩
  ·have f4 := kF' hv
   (have hWf := w1 @f4; repeat' (first | refine zS ?_ | refine zI ?_ ?_ | refine zH B4 ?_ | exact zF0 | refine zD fun hb => ?_ | exact zC | refine zT ?_ | fail))
   all_goals first | exact hx | exact ⟨c4, rfl⟩
 ·by_cases hy : y = 0
  ·have f2 := kT' hy
   iterate 3 (refine xA ?_; simp only [go_sem, simprocAttr, hz, f2]; (have hWf := w2 @hz @f2; repeat' (first | refine zY ?_ | refine zI ?_ ?_ | refine zH B2 ?_ | ((with_reducible apply xc); refine xm (Wz c2) ?_; rintro _ _ ⟨⟨p', rT, rN, rfl, hx⟩, c3, rfl⟩) | refine zU (Wz c2) ?_ | exact zF1 | refine zD fun hb => ?_ | exact zC | refine zT ?_ | fail)))
   obtain ⟨v, c4, v0, v1, B4⟩ := tail c3
   by_cases hv : v = 0
   ·have f4 := kT' hv
    (have hWf := w1 @f4; repeat' (first | refine zS ?_ | refine zI ?_ ?_ | refine zH B4 ?_ | ((with_reducible apply xc); refine xm (XB c4) ?_; rintro _ _ ⟨⟨rT', rN', rfl, hx'⟩, c5, rfl⟩) | refine zU (XB c4) ?_ | exact zF0 | refine zD fun hb => ?_ | exact zC | refine zT ?_ | fail))
    all_goals first | exact hx' | exact ⟨c5, rfl⟩
   ·have f4 := kF' hv
    (have hWf := w1 @f4; repeat' (first | refine zS ?_ | refine zI ?_ ?_ | refine zH B4 ?_ | exact zF0 | refine zD fun hb => ?_ | exact zC | refine zT ?_ | fail))
    all_goals first | exact hx | exact ⟨c4, rfl⟩
  ·have f2 := kF' hy
   obtain ⟨v, c4, v0, v1, B4⟩ := tail c2
   by_cases hv : v = 0
   ·have f4 := kT' hv
    (have hWf := w3 @hz @f2 @f4; repeat' (first | refine zS ?_ | refine zI ?_ ?_ | refine zH B2 ?_ | refine zH B4 ?_ | ((with_reducible apply xc); refine xm (XB c4) ?_; rintro _ _ ⟨⟨rT', rN', rfl, hx'⟩, c5, rfl⟩) | refine zU (XB c4) ?_ | exact zF0 | refine zD fun hb => ?_ | exact zC | refine zT ?_ | fail))
    all_goals first | exact hx' | exact ⟨c5, rfl⟩
   ·have f4 := kF' hv
    (have hWf := w3 @hz @f2 @f4; repeat' (first | refine zS ?_ | refine zI ?_ ?_ | refine zH B2 ?_ | refine zH B4 ?_ | exact zF0 | refine zD fun hb => ?_ | exact zC | refine zT ?_ | fail))
    all_goals first | exact hq.x | exact ⟨c4, rfl⟩
theorem WA (c : Cur) : FCon Tryz.prog 94 [c.d] (fun r o => (∃ (rT rN : List (List D)), r = .ag [.osl 63 3 rT, .osl 55 6 rN] /\ wz r) /\ ∃ c', o = [Cur.d c']) := (c_l08Any c).mono fun r o h => by
 obtain ⟨h1, h2⟩ := h
 have h1' := h1
 obtain ⟨p, rT, rN, rfl, -⟩ := h1'
 exact ⟨⟨rT, rN, rfl, h1⟩, h2⟩
theorem c_l09Any (c : Cur) : FCon Tryz.prog 40 [c.d] (fun r o => wz r /\ ∃ c', o = [Cur.d c']) := by
 refine FI PM Tryz.func40 Tryz.ntmps40 [] rfl rfl ?_
 iterate 2 (refine xA ?_; simp only [go_sem, simprocAttr]; (have hWf := f0; repeat' (first | refine zY ?_ | refine zI ?_ ?_ | ((with_reducible apply xc); refine xm (UH c) ?_; rintro _ _ ⟨⟨s, rfl, hs⟩, c1, rfl⟩) | refine zU (UH c) ?_ | ((with_reducible apply xc); refine xm (XW s (by omega)) ?_; rintro _ _ ⟨p, z, a, rfl, hq⟩) | refine zU (XW s (by omega)) ?_ | exact zF1 | refine zD fun hb => ?_ | exact zC | refine zT ?_ | fail)))
 obtain ⟨y, c2, y0, y1, B2⟩ := xD c1 (n := 3) (by omega) (by omega)
 rcases Bool.eq_false_or_eq_true (z != 0) with hz | hz
 ·(have hWf := w1 @hz; repeat' (first | refine zS ?_ | refine zI ?_ ?_ | ((with_reducible apply xc); refine xm (WA c1) ?_; rintro _ _ ⟨⟨rT, rN, rfl, hx⟩, c3, rfl⟩) | refine zU (WA c1) ?_ | exact zF0 | refine zD fun hb => ?_ | exact zC | refine zT ?_ | fail))
  all_goals first | exact hx | exact ⟨c3, rfl⟩
 ·by_cases hy : y = 0
  ·have f2 := kT' hy
   (have hWf := w2 @hz @f2; repeat' (first | refine zS ?_ | refine zI ?_ ?_ | refine zH B2 ?_ | ((with_reducible apply xc); refine xm (WA c2) ?_; rintro _ _ ⟨⟨rT, rN, rfl, hx⟩, c3, rfl⟩) | refine zU (WA c2) ?_ | exact zF0 | refine zD fun hb => ?_ | exact zC | refine zT ?_ | fail))
   all_goals first | exact hx | exact ⟨c3, rfl⟩
  ·have f2 := kF' hy
   (have hWf := w2 @hz @f2; repeat' (first | refine zS ?_ | refine zI ?_ ?_ | refine zH B2 ?_ | exact zF0 | refine zD fun hb => ?_ | exact zC | refine zT ?_ | fail))
   all_goals first | exact hq.x | exact ⟨c2, rfl⟩
theorem c_l09X (c : Cur) : FCon Tryz.prog 40 [c.d] (fun r o => (∃ (rT rN : List (List D)), r = .ag [.osl 63 3 rT, .osl 55 6 rN] /\ wz r) /\ ∃ c', o = [Cur.d c']) := (c_l09Any c).mono fun r o h => by
 obtain ⟨h1, h2⟩ := h
 have h1' := h1
 obtain ⟨p, rT, rN, rfl, -⟩ := h1'
 exact ⟨⟨rT, rN, rfl, h1⟩, h2⟩
theorem Wr (zs : List UInt8) : FCon Tryz.prog 13 [.sl 1 (zs.map u8E)] (fun r _ => wz r) := by
 refine FI PM Tryz.func13 Tryz.ntmps13 [] rfl rfl ?_
 (have hWf := f0; repeat' (first | refine zS ?_ | refine zI ?_ ?_ | ((with_reducible apply xc); refine xm (VA zs) ?_; rintro _ _ ⟨h, rfl⟩) | refine zU (VA zs) ?_ | ((with_reducible apply xc); refine xm (c_l09X ⟨zs, 0, h⟩) ?_; rintro _ _ ⟨⟨rT, rN, rfl, hx⟩, c3, rfl⟩) | refine zU (c_l09X ⟨zs, 0, h⟩) ?_ | exact zF0 | refine zD fun hb => ?_ | exact zC | refine zT ?_ | fail))
 all_goals exact hx
end Go.Proofs.YtgcdbmcoendcdaaGreat
namespace Go.Proofs.YtgcdbmcoendcdaaGreat
open Arb
namespace Arb
mutual
def mapA {α β : Type} (f : α -> β) : Arb α -> Arb β
 | .mk a l => .mk (f a) (mapL f l)
def mapL {α β : Type} (f : α -> β) : List (Arb α) -> List (Arb β)
 | [] => []
 | t :: l => mapA f t :: mapL f l
end
theorem mapL_eq {α β : Type} (f : α -> β) (l : List (Arb α)) : mapL f l = l.map (mapA f) := by
 induction l with
 | nil => rfl
 | cons t l ih => rw [mapL, ih]; rfl
theorem mapA_mk {α β : Type} (f : α -> β) (a : α) (l : List (Arb α)) : mapA f (.mk a l) = .mk (f a) (l.map (mapA f)) := by rw [mapA, mapL_eq]
theorem mapA_id {α : Type} : ∀ t : Arb α, mapA id t = t := fun t => by
 induction t using ind with
 | h a l ih =>
  rw [mapA_mk]
  congr 1
  exact (List.map_congr_left fun x hx => ih x hx).trans (List.map_id' l)
end Arb
def WS (q : MPat) (nm : ByteArray) : Bool := q.nodes.any fun x => (x.kind == 2) && (x.s.toList == nm.toList)
def Xy (a : EI) (nm : ByteArray) (i : Nat) : Bool :=
 if a.kind = 5 \/ a.kind = 8 then a.s.toList == nm.toList
 else if a.kind = 7 \/ a.kind = 15 then decide (i = 1) && (a.s.toList == nm.toList)
 else if a.kind = 13 then decide (0 < i) && WS (a.pats.getD (i - 1) ⟨[]⟩) nm
 else false
mutual
def yO (nm : ByteArray) : ET -> Nat
 | .mk a l => if a.kind = 3 then (if a.s.toList == nm.toList then 1 else 0) else y6 nm a 0 l
def y6 (nm : ByteArray) (a : EI) : Nat -> List ET -> Nat
 | _, [] => 0
 | i, t :: l => (if Xy a nm i then 0 else yO nm t) + y6 nm a (i + 1) l
end
theorem UM (nm : ByteArray) (a : EI) (l : List ET) : yO nm (.mk a l) = if a.kind = 3 then (if a.s.toList == nm.toList then 1 else 0) else y6 nm a 0 l := by rw [yO]
theorem vx (nm : ByteArray) (a : EI) (i : Nat) : y6 nm a i [] = 0 := by rw [y6]
theorem u4 (nm : ByteArray) (a : EI) (i : Nat) (t : ET) (l : List ET) : y6 nm a i (t :: l) = (if Xy a nm i then 0 else yO nm t) + y6 nm a (i + 1) l := by rw [y6]
theorem WH (nm : ByteArray) (a : EI) (i : Nat) (l m : List ET) : y6 nm a i (l ++ m) = y6 nm a i l + y6 nm a (i + l.length) m := by
 induction l generalizing i with
 | nil => simp [vx]
 | cons t l ih => rw [List.cons_append, u4, u4, ih, List.length_cons, show i + (l.length + 1) = i + 1 + l.length by omega, <- Nat.add_assoc]
theorem QJ (nm : ByteArray) (a : EI) (l : List ET) (k : Nat) (h : k < l.length) : y6 nm a 0 (l.take (k + 1)) = y6 nm a 0 (l.take k) + (if Xy a nm k then 0 else yO nm l[k]) := by
 rw [List.take_succ_eq_append_getElem h, WH, List.length_take, u4, vx, Nat.add_zero, Nat.zero_add, Nat.min_eq_left (by omega)]
theorem YC {nm : ByteArray} {a : EI} {l : List ET} (h : ∀ t ∈ l, yO nm t <= t.size) (i : Nat) : y6 nm a i l <= sizeL l := by
 induction l generalizing i with
 | nil => rw [vx]; exact Nat.zero_le _
 | cons t l ih =>
  have h1 := h t (by simp)
  have h2 := ih (fun x hx => h x (by simp [hx])) (i + 1)
  rw [u4, sizeL_cons]
  split <;> omega
theorem UL (nm : ByteArray) : ∀ t : ET, yO nm t <= t.size := fun t => by
 induction t using Arb.ind with
 | h a l ih =>
  have := YC (nm := nm) (a := a) ih 0
  rw [UM, size_mk]
  split
  ·split <;> omega
  ·omega
theorem QI (nm : ByteArray) (a : EI) (l : List ET) (k : Nat) : y6 nm a 0 (l.take k) <= y6 nm a 0 l := by
 have := WH nm a 0 (l.take k) (l.drop k)
 rw [List.take_append_drop] at this
 omega
def zJ (s : ByteArray) (m n : Int) : Option (Int × Bool) :=
 if s.toList = [43] then some (wrap63 (m + n), false)
 else if s.toList = [45] then some (wrap63 (m - n), false)
 else if s.toList = [42] then some (wrap63 (m * n), false)
 else if s.toList = [47] then (if wrap63 n == 0 then none else some (wrap63 ((wrap63 m).tdiv (wrap63 n)), false))
 else if s.toList = [37] then (if wrap63 n == 0 then none else some ((wrap63 m).tmod (wrap63 n), false))
 else if s.toList = [61] then some (if m = n then 1 else 0, true)
 else if s.toList = [60, 62] then some (if m = n then 0 else 1, true)
 else if s.toList = [60] then some (if m < n then 1 else 0, true)
 else some (if m <= n then 1 else 0, true)
def noS : ByteArray := ⟨#[]⟩
def trueS : ByteArray := ⟨#[116, 114, 117, 101]⟩
def WK : ByteArray := ⟨#[102, 97, 108, 115, 101]⟩
section
variable {α : Type} (inf : α -> EI) (mk : EI -> α)
def yV (a x y : EI) : Option EI :=
 if a.s.toList = [94] then
  (if x.kind = 2 /\ y.kind = 2 /\ x.s.size + y.s.size <= 1000 then some ⟨2, a.at_, 0, x.s ++ y.s, []⟩ else none)
 else if x.kind = 1 /\ y.kind = 1 then
  (match zJ a.s x.n y.n with
   | some (v, true) => some ⟨4, a.at_, 0, if v = 1 then trueS else WK, []⟩
   | some (v, false) => if 0 <= v then some ⟨1, a.at_, v, noS, []⟩ else none
   | none => none)
 else none
def wT (a : EI) : Int := if a.kind = 4 /\ a.s.toList = [116, 114, 117, 101] then 1 else if a.kind = 4 /\ a.s.toList = [102, 97, 108, 115, 101] then 0 else -1
def YS (a : EI) (kids : Nat) : Bool := decide (a.kind = 1 \/ a.kind = 2 \/ a.kind = 12 \/ a.kind = 5) || (decide (a.kind = 4) && decide (kids = 0))
def x9 (a : α) (l : List (Arb α)) : Arb α :=
 if (inf a).kind = 10 then (match l with
  | [x, y] => match yV (inf a) (inf x.a) (inf y.a) with
   | some b => .mk (mk b) []
   | none => .mk a l
  | _ => .mk a l)
 else if (inf a).kind = 9 then (match l with
  | [c, x, y] => if wT (inf c.a) = 1 then x else if wT (inf c.a) = 0 then y else .mk a l
  | _ => .mk a l)
 else if (inf a).kind = 19 then (match l with
  | [x, y] => if (inf x.a).kind = 12 then y else .mk a l
  | _ => .mk a l)
 else if (inf a).kind = 7 then (match l with
  | [x, y] => if YS (inf x.a) x.kids.length = true /\ yO (inf a).s (mapA inf y) = 0 then y else .mk a l
  | _ => .mk a l)
 else .mk a l
mutual
def yU : Arb α -> Arb α
 | .mk a l => x9 inf mk a (WN l)
def WN : List (Arb α) -> List (Arb α)
 | [] => []
 | t :: l => yU t :: WN l
end
theorem foldGL_eq (l : List (Arb α)) : WN inf mk l = l.map (yU inf mk) := by
 induction l with
 | nil => rfl
 | cons t l ih => rw [WN, ih]; rfl
theorem zN (a : α) (l : List (Arb α)) : yU inf mk (.mk a l) = x9 inf mk a (l.map (yU inf mk)) := by rw [yU, foldGL_eq]
end
abbrev xv : ET -> ET := yU id id
theorem wQ {P : ET -> Prop} (a : EI) (l : List ET) (h0 : P (.mk a l)) (h1 : ∀ x y b, l = [x, y] -> a.kind = 10 -> yV a x.a y.a = some b -> P (.mk b [])) (h2 : ∀ x ∈ l, a.kind ≠ 10 -> P x) : P (x9 id id a l) := by
 unfold x9
 simp only [id]
 split
 ·rename_i hk
  split
  ·rename_i x y
   split
   ·rename_i b hb; exact h1 x y b rfl hk hb
   ·exact h0
  ·exact h0
 ·rename_i hk
  split
  ·split
   ·split
    ·exact h2 _ (by simp) hk
    ·split
     ·exact h2 _ (by simp) hk
     ·exact h0
   ·exact h0
  ·split
   ·split
    ·split
     ·exact h2 _ (by simp) hk
     ·exact h0
    ·exact h0
   ·split
    ·split
     ·split
      ·exact h2 _ (by simp) hk
      ·exact h0
     ·exact h0
    ·exact h0
theorem uF : ∀ t : ET, (xv t).size <= t.size := fun t => by
 induction t using Arb.ind with
 | h a l ih =>
  have hs : sizeL (l.map xv) <= sizeL l := by
   clear a
   induction l with
   | nil => exact Nat.le_refl _
   | cons t l ih2 => rw [List.map_cons, sizeL_cons, sizeL_cons]; have := ih t (by simp); have := ih2 (fun x hx => ih x (by simp [hx])); omega
  show (yU id id (.mk a l)).size <= _
  rw [zN]
  refine wQ (P := fun t => t.size <= (Arb.mk a l).size) a (l.map xv) ?_ ?_ ?_
  ·rw [size_mk, size_mk]; omega
  ·intro x y b h _ _
   rw [size_mk, size_mk, sizeL_nil]; omega
  ·intro x hx _
   have := size_mem hx
   rw [size_mk]; omega
theorem foldP_ok {a x y b : EI} (ha : 0 <= a.at_) (h : yV a x y = some b) : okN b [] := by
 unfold yV at h
 split at h
 ·split at h
  ·injection h with h; subst h
   exact ⟨.str rfl rfl, ha, .inr rfl, .inr rfl, by simp⟩
  ·cases h
 ·split at h
  ·split at h
   ·rename_i v _
    injection h with h; subst h
    refine ⟨.con0 rfl rfl ?_, ha, .inr rfl, .inr rfl, by simp⟩
    simp only
    have e1 : trueS.toList = [116, 114, 117, 101] := by rw [ByteArray.toList_eq]; rfl
    have e2 : WK.toList = [102, 97, 108, 115, 101] := by rw [ByteArray.toList_eq]; rfl
    split
    ·unfold yF; rw [e1]; decide
    ·unfold yF; rw [e2]; decide
   ·rename_i v hp
    split at h
    ·rename_i h0
     injection h with h; subst h
     refine ⟨.int rfl rfl h0 ?_ (by show noS.toList = []; rw [ByteArray.toList_eq]; rfl), ha, .inl rfl, .inr rfl, by simp⟩
     simp only
     unfold zJ at hp
     have w := fun n => (Y2 n).2
     repeat' (split at hp)
     all_goals first
      | (injection hp with hp; injection hp with h1 h2; subst h1; first | exact w _ | (cases h2; done) | skip)
      | (cases hp; done)
     have b1 := Y2 x.n
     have b2 := XG (wrap63 x.n) (wrap63 y.n)
     have b3 := tmod_bd (wrap63 x.n) (wrap63 y.n) b1.1 b1.2
     rename_i q _
     by_cases hz : 0 <= wrap63 x.n
     ·omega
     ·have h3 := Int.tmod_nonneg (wrap63 y.n) (show 0 <= -(wrap63 x.n) by omega)
      rw [Int.neg_tmod] at h3
      omega
    ·cases h
   ·cases h
  ·cases h
theorem WM {a : EI} {l : List ET} (h : a.kind ≠ 10 /\ a.kind ≠ 9 /\ a.kind ≠ 19 /\ a.kind ≠ 7) : xv (.mk a l) = .mk a (l.map xv) := by
 show yU id id _ = _
 rw [zN]
 unfold x9
 simp only [id, if_neg h.1, if_neg h.2.1, if_neg h.2.2.1, if_neg h.2.2.2]
theorem EV.fold {a : EI} {l : List ET} (v : EV a l) : EV a (l.map xv) := by
 cases v with
 | int k e h1 h2 h3 => subst e; exact .int k rfl h1 h2 h3
 | str k e => subst e; exact .str k rfl
 | var k e h => subst e; exact .var k rfl h
 | con0 k e h => subst e; exact .con0 k rfl h
 | cons b x y k e h1 h2 =>
  subst e
  refine .cons b (xv x) (xv y) k ?_ h1 h2
  rw [List.map_cons, List.map_nil, WM (by rw [h1]; decide)]; rfl
 | con1 x k e h => subst e; exact .con1 _ k rfl h
 | func x k e h => subst e; exact .func _ k rfl h
 | app x y k e h => subst e; exact .app _ _ k rfl h
 | let_ x y k e h => subst e; exact .let_ _ _ k rfl h
 | rec_ b x y k e h1 h2 =>
  subst e
  refine .rec_ b (xv x) (xv y) k ?_ h1 h2
  rw [List.map_cons, List.map_cons, List.map_nil, WM (by rw [h1]; decide)]; rfl
 | if_ x y z k e h => subst e; exact .if_ _ _ _ k rfl h
 | prim x y k e h => subst e; exact .prim _ _ k rfl h
 | pair x y k e h => subst e; exact .pair _ _ k rfl h
 | unit k e h => subst e; exact .unit k rfl h
 | mat x r k e h1 h2 h3 => subst e; exact .mat _ (r.map xv) k rfl (by simpa using h1) (by simpa using h2) h3
 | raise x k e h => subst e; exact .raise _ k rfl h
 | try_ x y k e h => subst e; exact .try_ _ _ k rfl h
 | ref x k e h => subst e; exact .ref _ k rfl h
 | get x k e h => subst e; exact .get _ k rfl h
 | set x y k e h => subst e; exact .set _ _ k rfl h
 | seq x y k e h => subst e; exact .seq _ _ k rfl h
theorem vV : ∀ t : ET, okT t -> okT (xv t) := fun t => by
 induction t using Arb.ind with
 | h a l ih =>
  intro h
  have hr := h.root
  have hk : ∀ x ∈ l.map xv, okT x := fun x hx => by
   obtain ⟨y, hy, rfl⟩ := List.mem_map.1 hx
   exact ih y hy (h.kid y hy)
  show okT (yU id id (.mk a l))
  rw [zN]
  refine wQ (P := okT) a (l.map xv) ?_ ?_ ?_
  ·exact All.mk ⟨hr.v.fold, hr.at0, hr.n0, hr.p0, hr.pm⟩ hk
  ·intro x y b _ _ hb
   exact All.mk (foldP_ok hr.at0 hb) (by simp)
  ·intro x hx _
   exact hk x hx
end Go.Proofs.YtgcdbmcoendcdaaGreat
namespace Go.Proofs.YtgcdbmcoendcdaaGreat
open Go.RowKit
theorem wH (w : World) (n : Int) : Calls Tryz.prog 253 #[.int .i64 n] w fun e w' => e = .returned (.int .i64 (wrap63 n)) /\ w = w' := by
 go_enter Tryz.func253, Tryz.ntmps253
 go_wp2
 go_ret
 exact ⟨rfl, rfl⟩
theorem impl_AddW (w : World) (a b : Int) : Calls Tryz.prog 223 #[.int .i64 a, .int .i64 b] w fun e w' => e = .returned (.int .i64 (wrap63 (a + b))) /\ w = w' := by
 go_enter Tryz.func223, Tryz.ntmps223
 go_wp2_with (go_at_call 253; refine (wH _ _).mono ?_; rintro e w' ⟨rfl, rfl⟩)
 go_ret
 exact ⟨ret_i (by rw [ub]), rfl⟩
theorem impl_SubW (w : World) (a b : Int) : Calls Tryz.prog 224 #[.int .i64 a, .int .i64 b] w fun e w' => e = .returned (.int .i64 (wrap63 (a - b))) /\ w = w' := by
 go_enter Tryz.func224, Tryz.ntmps224
 go_wp2_with (go_at_call 253; refine (wH _ _).mono ?_; rintro e w' ⟨rfl, rfl⟩)
 go_ret
 exact ⟨ret_i (by rw [ub]), rfl⟩
theorem impl_MulW (w : World) (a b : Int) : Calls Tryz.prog 225 #[.int .i64 a, .int .i64 b] w fun e w' => e = .returned (.int .i64 (wrap63 (a * b))) /\ w = w' := by
 go_enter Tryz.func225, Tryz.ntmps225
 go_wp2_with (go_at_call 253; refine (wH _ _).mono ?_; rintro e w' ⟨rfl, rfl⟩)
 go_ret
 exact ⟨ret_i (by rw [ub]), rfl⟩
theorem Uc (w : World) (a b : Int) (h : (wrap63 b == 0) = true) : Calls Tryz.prog 226 #[.int .i64 a, .int .i64 b] w fun e w' => e = .returned (.tuple #[.int .i64 0, .bool false]) /\ w = w' := by
 go_enter Tryz.func226, Tryz.ntmps226
 go_wp2_with (go_at_call 253; refine (wH _ _).mono ?_; rintro e w' ⟨rfl, rfl⟩)
 go_ret2
 exact ⟨rfl, rfl⟩
theorem impl_DivW (w : World) (a b : Int) (h : (wrap63 b == 0) = false) : Calls Tryz.prog 226 #[.int .i64 a, .int .i64 b] w fun e w' => e = .returned (.tuple #[.int .i64 (wrap63 ((wrap63 a).tdiv (wrap63 b))), .bool true]) /\ w = w' := by
 have hn : ¬ wrap63 b = 0 := by simpa using h
 go_enter Tryz.func226, Tryz.ntmps226
 go_wp2_with (go_at_call 253; refine (wH _ _).mono ?_; rintro e w' ⟨rfl, rfl⟩)
 go_ret2
 exact ⟨ret_ib (by rw [ub]), rfl⟩
theorem Ud (w : World) (a b : Int) (h : (wrap63 b == 0) = true) : Calls Tryz.prog 227 #[.int .i64 a, .int .i64 b] w fun e w' => e = .returned (.tuple #[.int .i64 0, .bool false]) /\ w = w' := by
 go_enter Tryz.func227, Tryz.ntmps227
 go_wp2_with (go_at_call 253; refine (wH _ _).mono ?_; rintro e w' ⟨rfl, rfl⟩)
 go_ret2
 exact ⟨rfl, rfl⟩
theorem impl_RemW (w : World) (a b : Int) (h : (wrap63 b == 0) = false) : Calls Tryz.prog 227 #[.int .i64 a, .int .i64 b] w fun e w' => e = .returned (.tuple #[.int .i64 ((wrap63 a).tmod (wrap63 b)), .bool true]) /\ w = w' := by
 have hn : ¬ wrap63 b = 0 := by simpa using h
 go_enter Tryz.func227, Tryz.ntmps227
 go_wp2_with (go_at_call 253; refine (wH _ _).mono ?_; rintro e w' ⟨rfl, rfl⟩)
 go_ret2
 exact ⟨rfl, rfl⟩
end Go.Proofs.YtgcdbmcoendcdaaGreat
namespace Go.Proofs.YtgcdbmcoendcdaaGreat
open Go.RowKit Arb
def pnF (xs : List DPNode) : List ByteArray := (xs.filter fun x => x.kind == 2).map fun x => x.s
theorem pnF_succ {xs : List DPNode} {k : Nat} (h : k < xs.length) : pnF (xs.take (k + 1)) = if xs[k].kind = 2 then pnF (xs.take k) ++ [xs[k].s] else pnF (xs.take k) := by
 unfold pnF
 rw [List.take_succ_eq_append_getElem h, List.filter_append, List.map_append]
 by_cases h2 : xs[k].kind = 2 <;> simp [h2]
theorem pnF_len (xs : List DPNode) : (pnF xs).length <= xs.length := by
 unfold pnF
 rw [List.length_map]; exact List.length_filter_le _ _
theorem pnF_has (q : MPat) (nm : ByteArray) : inL nm (pnF q.nodes) = WS q nm := by
 rw [Bool.eq_iff_iff, uT]
 unfold pnF WS
 simp only [List.mem_map, List.mem_filter, List.any_eq_true, Bool.and_eq_true, beq_iff_eq]
 constructor
 ·rintro ⟨x, ⟨h1, h2⟩, rfl⟩
  exact ⟨x, h1, h2, rfl⟩
 ·rintro ⟨x, h1, h2, h3⟩
  refine ⟨x, ⟨h1, h2⟩, ?_⟩
  rw [ByteArray.toList_eq, ByteArray.toList_eq] at h3
  exact ByteArray.ext (Array.ext' h3)
theorem QA (xs : List DPNode) (hl : xs.length <= 1000000) : FCon Tryz.prog 207 [.ag [.sl 4 (xs.map DPNode.enc)]] (fun r _ => r = .osl 9 1 ((pnF xs).map stE)) := by
 refine FI PM Tryz.func207 Tryz.ntmps207 [] rfl rfl ?_
 (have hWf := f0; repeat' (first | refine zS ?_ | refine zI ?_ ?_ | exact zF0 | refine zD fun hb => ?_ | exact zC | refine zT ?_ | fail))
 refine xk (fun n σ => ∃ k : Nat, k <= xs.length /\ n = xs.length - k /\ σ.t 3 = .bs 6 1 (pnF (xs.take k)).length /\ σ.b 6 = some (.arr 9 1 ((pnF (xs.take k)).map stE)) /\ σ.t 8 = .sl 4 (xs.map DPNode.enc) /\ σ.t 9 = .s (.int .i64 xs.length) /\ σ.t 10 = .s (.int .i64 k)) xs.length ⟨0, by omega, by omega, ?_⟩ ?_
 ·simp only [go_sem, simprocAttr, Int.natCast_zero, List.take_zero, pnF]
 ·rintro n σ ⟨k, hk, rfl, h3, b6, h8, h9, h10⟩ K' hK
  by_cases hlt : k < xs.length
  ·have hx := xh DPNode.enc xs k hlt
   have he := DPNode.enc_eq xs[k]
   have hpl := pnF_len (xs.take k)
   rw [List.length_take] at hpl
   have hs := pnF_succ hlt
   by_cases h2 : xs[k].kind = 2
   ·have e2 : (xs[k].kind == 2) = true := by simpa using h2
    rw [if_pos h2] at hs
    (have hWf := w8 @h3 @b6 @h8 @h9 @h10 @hx @he @e2; repeat' (first | refine zS ?_ | refine zI ?_ ?_ | exact zF0 | refine zD fun hb => ?_ | exact zC | refine zT ?_ | fail))
    refine hK (xs.length - (k + 1)) _ (by omega) ⟨k + 1, by omega, rfl, ?_⟩
    simp only [go_sem, simprocAttr, h3, b6, h8, h9, h10, Int.natCast_succ, hs, List.map_append, List.length_append, yH]
   ·have e2 : (xs[k].kind == 2) = false := by simpa using h2
    rw [if_neg h2] at hs
    (have hWf := w8 @h3 @b6 @h8 @h9 @h10 @hx @he @e2; repeat' (first | refine zS ?_ | refine zI ?_ ?_ | exact zF0 | refine zD fun hb => ?_ | exact zC | refine zT ?_ | fail))
    refine hK (xs.length - (k + 1)) _ (by omega) ⟨k + 1, by omega, rfl, ?_⟩
    simp only [go_sem, simprocAttr, h3, b6, h8, h9, h10, Int.natCast_succ, hs]
  ·obtain rfl : k = xs.length := by omega
   rw [List.take_length] at h3 b6
   (have hWf := w5 @h3 @b6 @h8 @h9 @h10; repeat' (first | refine zS ?_ | refine zI ?_ ?_ | exact zF0 | refine zD fun hb => ?_ | exact zC | refine zT ?_ | fail))
theorem bindsM_eq (a : EI) (nm : ByteArray) (i : Nat) : Xy a nm i = if a.kind = 5 \/ a.kind = 8 then a.s.toList == nm.toList
 else if a.kind = 7 \/ a.kind = 15 then decide (i = 1) && (a.s.toList == nm.toList)
 else if a.kind = 13 then decide (0 < i) && WS (a.pats.getD (i - 1) ⟨[]⟩) nm
 else false := rfl
theorem c_binds (a : EI) (l : List ET) (hp : Xg a.pats) (i : Nat) (hi : i <= 1000000) (hm : a.kind = 13 -> i <= a.pats.length) (nm : ByteArray) : FCon Tryz.prog 165 [exE (.mk a l), .s (.int .i64 i), .s (.string nm)] (fun r _ => r = .s (.bool (Xy a nm i))) := by
 rw [xM, bindsM_eq]
 have e1 : ((i : Int) == 1) = decide (i = 1) := by
  rw [Bool.eq_iff_iff]; simp only [beq_iff_eq, decide_eq_true_eq]; omega
 by_cases k1 : a.kind = 5 \/ a.kind = 8
 ·rw [if_pos k1]
  rcases k1 with k | k
  ·refine FI PM Tryz.func165 Tryz.ntmps165 [] rfl rfl ?_
   (have hWf := w1 @k; repeat' (first | refine zS ?_ | refine zI ?_ ?_ | exact zF0 | refine zD fun hb => ?_ | exact zC | refine zT ?_ | fail))
  ·refine FI PM Tryz.func165 Tryz.ntmps165 [] rfl rfl ?_
   (have hWf := w1 @k; repeat' (first | refine zS ?_ | refine zI ?_ ?_ | exact zF0 | refine zD fun hb => ?_ | exact zC | refine zT ?_ | fail))
 ·rw [if_neg k1]
  by_cases k2 : a.kind = 7 \/ a.kind = 15
  ·rw [if_pos k2]
   rcases k2 with k | k
   ·by_cases hi1 : i = 1
    ·subst hi1
     refine FI PM Tryz.func165 Tryz.ntmps165 [] rfl rfl ?_
     (have hWf := w1 @k; repeat' (first | refine zS ?_ | refine zI ?_ ?_ | exact zF0 | refine zD fun hb => ?_ | exact zC | refine zT ?_ | fail))
    ·have e2 : ((i : Int) == 1) = false := by rw [e1]; simp [hi1]
     refine FI PM Tryz.func165 Tryz.ntmps165 [] rfl rfl ?_
     (have hWf := w2 @k @e2; repeat' (first | refine zS ?_ | refine zI ?_ ?_ | exact zF0 | refine zD fun hb => ?_ | exact zC | refine zT ?_ | fail))
     simp [hi1]
   ·by_cases hi1 : i = 1
    ·subst hi1
     refine FI PM Tryz.func165 Tryz.ntmps165 [] rfl rfl ?_
     (have hWf := w1 @k; repeat' (first | refine zS ?_ | refine zI ?_ ?_ | exact zF0 | refine zD fun hb => ?_ | exact zC | refine zT ?_ | fail))
    ·have e2 : ((i : Int) == 1) = false := by rw [e1]; simp [hi1]
     refine FI PM Tryz.func165 Tryz.ntmps165 [] rfl rfl ?_
     (have hWf := w2 @k @e2; repeat' (first | refine zS ?_ | refine zI ?_ ?_ | exact zF0 | refine zD fun hb => ?_ | exact zC | refine zT ?_ | fail))
     simp [hi1]
  ·rw [if_neg k2]
   by_cases k3 : a.kind = 13
   ·rw [if_pos k3]
    by_cases hi0 : 0 < i
    ·have hlt : i - 1 < a.pats.length := by have := hm k3; omega
     have hx := xh MPat.enc a.pats (i - 1) hlt
     have he := MPat.enc_eq a.pats[i - 1]
     have hc : ((i : Int) - 1).toNat = i - 1 := by omega
     have hq := hp.2 _ (List.getElem_mem hlt)
     have hpn := QA a.pats[i - 1].nodes hq.1
     have hco := zk (pnF a.pats[i - 1].nodes) nm
     rw [pnF_has] at hco
     have hg : a.pats.getD (i - 1) ⟨[]⟩ = a.pats[i - 1] := by rw [List.getD_eq_getElem?_getD, List.getElem?_eq_getElem hlt]; rfl
     have hb0 : decide ((0 : Int) < (i : Int)) = true := by simpa using hi0
     rw [hg, decide_eq_true hi0, Bool.true_and]
     refine FI PM Tryz.func165 Tryz.ntmps165 [] rfl rfl ?_
     (have hWf := w6 @k3 @hx @he @hc @hb0 @xd; repeat' (first | refine zS ?_ | refine zI ?_ ?_ | refine zK (hpn) ?_ | refine zK (hco) ?_ | exact zF0 | refine zD fun hb => ?_ | exact zC | refine zT ?_ | fail))
    ·obtain rfl : i = 0 := by omega
     refine FI PM Tryz.func165 Tryz.ntmps165 [] rfl rfl ?_
     (have hWf := w1 @k3; repeat' (first | refine zS ?_ | refine zI ?_ ?_ | exact zF0 | refine zD fun hb => ?_ | exact zC | refine zT ?_ | fail))
   ·rw [if_neg k3]
    simp only [not_or] at k1 k2
    have f5 : (a.kind == 5) = false := by simpa using k1.1
    have f8 : (a.kind == 8) = false := by simpa using k1.2
    have f7 : (a.kind == 7) = false := by simpa using k2.1
    have f15 : (a.kind == 15) = false := by simpa using k2.2
    have f13 : (a.kind == 13) = false := by simpa using k3
    refine FI PM Tryz.func165 Tryz.ntmps165 [] rfl rfl ?_
    (have hWf := w5 @f5 @f8 @f7 @f15 @f13; repeat' (first | refine zS ?_ | refine zI ?_ ?_ | exact zF0 | refine zD fun hb => ?_ | exact zC | refine zT ?_ | fail))
theorem yB {k z : Int} (h : ¬ k = z) : (k == z) = false := by simpa using h
theorem vH (b : EI) (r : List ET) : exS (.mk b r) = [.pt [.s (.int .i64 b.kind), .s (.int .i64 b.at_), .s (.int .i64 b.n), .s (.string b.s), .sl 1 (r.map exS), .sl 1 (b.pats.map MPat.enc)]] := by show [exE _] = _; rw [xM]
def cntN (a : EI) (l : List ET) : Prop := Xg a.pats /\ (a.kind = 13 -> l.length <= a.pats.length + 1)
theorem c_count (nm : ByteArray) : ∀ t : ET, All cntN t -> t.size <= 1000000 -> FCon Tryz.prog 83 [exE t, .s (.string nm)] (fun r _ => r = .s (.int .i64 (yO nm t))) := fun t => by
 induction t using Arb.ind with
 | h a l ih =>
  intro hA hs
  rw [size_mk] at hs
  have hll := sizeL_len l
  obtain ⟨hp, hm⟩ := hA.root
  rw [UM]
  by_cases k3 : a.kind = 3
  ·rw [if_pos k3, xM]
   cases he : (a.s.toList == nm.toList) with
   | true =>
    refine FI PM Tryz.func83 Tryz.ntmps83 [] rfl rfl ?_
    (have hWf := w2 @k3 @he; repeat' (first | refine zS ?_ | refine zI ?_ ?_ | exact zF0 | refine zD fun hb => ?_ | exact zC | refine zT ?_ | fail))
   | false =>
    refine FI PM Tryz.func83 Tryz.ntmps83 [] rfl rfl ?_
    (have hWf := w2 @k3 @he; repeat' (first | refine zS ?_ | refine zI ?_ ?_ | exact zF0 | refine zD fun hb => ?_ | exact zC | refine zT ?_ | fail))
  ·rw [if_neg k3]
   have f3 := yB k3
   have hbd := fun i hi h13 => c_binds a l hp i hi h13 nm
   rw [xM] at hbd ⊢
   have hcl := fun k => Nat.le_trans (QI nm a l k) (YC (nm := nm) (a := a) (fun t _ => UL nm t) 0)
   refine FI PM Tryz.func83 Tryz.ntmps83 [] rfl rfl ?_
   (have hWf := w1 @f3; repeat' (first | refine zS ?_ | refine zI ?_ ?_ | exact zF0 | refine zD fun hb => ?_ | exact zC | refine zT ?_ | fail))
   refine xk (fun n σ => ∃ k : Nat, k <= l.length /\ n = l.length - k /\ σ.t 0 = .pt [.s (.int .i64 a.kind), .s (.int .i64 a.at_), .s (.int .i64 a.n), .s (.string a.s), .sl 1 (l.map exS), .sl 1 (a.pats.map MPat.enc)] /\ σ.t 1 = .s (.string nm) /\ σ.t 5 = .s (.int .i64 (y6 nm a 0 (l.take k))) /\ σ.t 22 = .sl 1 (l.map exS) /\ σ.t 23 = .s (.int .i64 l.length) /\ σ.t 24 = .s (.int .i64 k)) l.length ⟨0, by omega, by omega, ?_⟩ ?_
   ·simp only [go_sem, simprocAttr, Int.natCast_zero, List.take_zero, vx]
   ·rintro n σ ⟨k, hk, rfl, h0, h1, h5, h22, h23, h24⟩ K' hK
    by_cases hlt : k < l.length
    ·have hx := xh exS l k hlt
     have he : exS l[k] = [exE l[k]] := rfl
     have hz : l[k].size <= 1000000 := by have := size_mem (List.getElem_mem hlt); omega
     have hi := ih l[k] (List.getElem_mem hlt) (hA.kid _ (List.getElem_mem hlt)) hz
     have hbn := hbd k (by omega) (fun q => by have := hm q; omega)
     have hct := QJ nm a l k hlt
     have hc1 := hcl k
     have hc2 := UL nm l[k]
     obtain ⟨b, r, hbr⟩ : ∃ b r, l[k] = .mk b r := ⟨_, _, Arb.eta _⟩
     have hex : exS l[k] = [.pt [.s (.int .i64 b.kind), .s (.int .i64 b.at_), .s (.int .i64 b.n), .s (.string b.s), .sl 1 (r.map exS), .sl 1 (b.pats.map MPat.enc)]] := by rw [hbr, vH]
     have hi2 : FCon Tryz.prog 83 [.pt [.s (.int .i64 b.kind), .s (.int .i64 b.at_), .s (.int .i64 b.n), .s (.string b.s), .sl 1 (r.map exS), .sl 1 (b.pats.map MPat.enc)], .s (.string nm)] (fun x _ => x = .s (.int .i64 (yO nm l[k]))) := by rw [hbr] at hi ⊢; rw [xM] at hi; exact hi
     cases hbm : Xy a nm k with
     | true =>
      rw [hbm] at hbn hct
      (have hWf := w8 @h0 @h1 @h5 @h22 @h23 @h24 @hx @hex; repeat' (first | refine zS ?_ | refine zI ?_ ?_ | refine zK (hbn) ?_ | exact zF0 | refine zD fun hb => ?_ | exact zC | refine zT ?_ | fail))
      refine hK (l.length - (k + 1)) _ (by omega) ⟨k + 1, by omega, rfl, ?_⟩
      simp only [go_sem, simprocAttr, h0, h1, h5, h22, h23, h24, Int.natCast_succ, hct]
     | false =>
      rw [hbm] at hbn hct
      (have hWf := w8 @h0 @h1 @h5 @h22 @h23 @h24 @hx @hex; repeat' (first | refine zS ?_ | refine zI ?_ ?_ | refine zK (hbn) ?_ | refine zK (hi2) ?_ | exact zF0 | refine zD fun hb => ?_ | exact zC | refine zT ?_ | fail))
      refine hK (l.length - (k + 1)) _ (by omega) ⟨k + 1, by omega, rfl, ?_⟩
      simp only [go_sem, simprocAttr, h0, h1, h5, h22, h23, h24, Int.natCast_succ, hct, Int.natCast_add]
    ·obtain rfl : k = l.length := by omega
     rw [List.take_length] at h5
     (have hWf := w6 @h0 @h1 @h5 @h22 @h23 @h24; repeat' (first | refine zS ?_ | refine zI ?_ ?_ | exact zF0 | refine zD fun hb => ?_ | exact zC | refine zT ?_ | fail))
def isPl (a : EI) (n : Nat) : Bool := decide (a.kind = 1 \/ a.kind = 2 \/ a.kind = 12) || (decide (a.kind = 4) && decide (n = 0))
theorem c_isPlain (a : EI) (l : List ET) : FCon Tryz.prog 82 [exE (.mk a l)] (fun r _ => r = .s (.bool (isPl a l.length))) := by
 rw [xM]
 have e : isPl a l.length = isPl a l.length := rfl
 conv at e => rhs; unfold isPl
 rw [e]; clear e
 by_cases k1 : a.kind = 1
 ·refine FI PM Tryz.func82 Tryz.ntmps82 [] rfl rfl ?_
  (have hWf := w1 @k1; repeat' (first | refine zS ?_ | refine zI ?_ ?_ | exact zF0 | refine zD fun hb => ?_ | exact zC | refine zT ?_ | fail))
 ·by_cases k2 : a.kind = 2
  ·refine FI PM Tryz.func82 Tryz.ntmps82 [] rfl rfl ?_
   (have hWf := w1 @k2; repeat' (first | refine zS ?_ | refine zI ?_ ?_ | exact zF0 | refine zD fun hb => ?_ | exact zC | refine zT ?_ | fail))
  ·by_cases k12 : a.kind = 12
   ·refine FI PM Tryz.func82 Tryz.ntmps82 [] rfl rfl ?_
    (have hWf := w1 @k12; repeat' (first | refine zS ?_ | refine zI ?_ ?_ | exact zF0 | refine zD fun hb => ?_ | exact zC | refine zT ?_ | fail))
   ·have f1 := yB k1
    have f2 := yB k2
    have f12 := yB k12
    by_cases k4 : a.kind = 4
    ·cases l with
     | nil =>
      refine FI PM Tryz.func82 Tryz.ntmps82 [] rfl rfl ?_
      (have hWf := w1 @k4; repeat' (first | refine zS ?_ | refine zI ?_ ?_ | exact zF0 | refine zD fun hb => ?_ | exact zC | refine zT ?_ | fail))
     | cons x r =>
      have hz : (((r.length + 1 : Nat) : Int) == 0) = false := by simp; omega
      refine FI PM Tryz.func82 Tryz.ntmps82 [] rfl rfl ?_
      (have hWf := w2 @k4 @hz; repeat' (first | refine zS ?_ | refine zI ?_ ?_ | exact zF0 | refine zD fun hb => ?_ | exact zC | refine zT ?_ | fail))
    ·have f4 := yB k4
     refine FI PM Tryz.func82 Tryz.ntmps82 [] rfl rfl ?_
     (have hWf := w4 @f1 @f2 @f12 @f4; repeat' (first | refine zS ?_ | refine zI ?_ ?_ | exact zF0 | refine zD fun hb => ?_ | exact zC | refine zT ?_ | fail))
     simp [k1, k2, k12, k4]
theorem t_true : (⟨#[116, 114, 117, 101]⟩ : ByteArray).toList = [116, 114, 117, 101] := by rw [ByteArray.toList_eq]
theorem Un : (⟨#[102, 97, 108, 115, 101]⟩ : ByteArray).toList = [102, 97, 108, 115, 101] := by rw [ByteArray.toList_eq]
theorem c_truthOf (a : EI) (l : List ET) : FCon Tryz.prog 81 [exE (.mk a l)] (fun r _ => r = .s (.int .i64 (wT a))) := by
 rw [xM]
 have e : wT a = wT a := rfl
 conv at e => rhs; unfold wT
 rw [e]; clear e
 by_cases k4 : a.kind = 4
 ·by_cases h1 : a.s.toList = [116, 114, 117, 101]
  ·rw [if_pos ⟨k4, h1⟩]
   refine FI PM Tryz.func81 Tryz.ntmps81 [] rfl rfl ?_
   (have hWf := w4 @k4 @h1 @t_true @Un; repeat' (first | refine zS ?_ | refine zI ?_ ?_ | exact zF0 | refine zD fun hb => ?_ | exact zC | refine zT ?_ | fail))
  ·have g1 : (a.s.toList == [116, 114, 117, 101]) = false := by simpa using h1
   rw [if_neg (fun q => h1 q.2)]
   by_cases h2 : a.s.toList = [102, 97, 108, 115, 101]
   ·rw [if_pos ⟨k4, h2⟩]
    refine FI PM Tryz.func81 Tryz.ntmps81 [] rfl rfl ?_
    (have hWf := w4 @k4 @h2 @t_true @Un; repeat' (first | refine zS ?_ | refine zI ?_ ?_ | exact zF0 | refine zD fun hb => ?_ | exact zC | refine zT ?_ | fail))
    exact absurd hb (by decide)
   ·have g2 : (a.s.toList == [102, 97, 108, 115, 101]) = false := by simpa using h2
    rw [if_neg (fun q => h2 q.2)]
    refine FI PM Tryz.func81 Tryz.ntmps81 [] rfl rfl ?_
    (have hWf := w5 @k4 @g1 @g2 @t_true @Un; repeat' (first | refine zS ?_ | refine zI ?_ ?_ | exact zF0 | refine zD fun hb => ?_ | exact zC | refine zT ?_ | fail))
 ·have f4 := yB k4
  rw [if_neg (fun q => k4 q.1), if_neg (fun q => k4 q.1)]
  refine FI PM Tryz.func81 Tryz.ntmps81 [] rfl rfl ?_
  (have hWf := w1 @f4; repeat' (first | refine zS ?_ | refine zI ?_ ?_ | exact zF0 | refine zD fun hb => ?_ | exact zC | refine zT ?_ | fail))
theorem FCon.ofInt2 {f : FuncId} {fn : Func} {c : Code} (hf : Tryz.prog.funcs[f]? = some fn) (hname : (fn.name == "runtime.NumGoroutine") = false) (hb : fn.body = some c) (m n : Int) {v : Value} {r : D} (hr : ∀ (g : Gh) (w : World), RNs g w r v)
  (h : ∀ w, Calls Tryz.prog f #[.int .i64 m, .int .i64 n] w fun e w' => e = .returned v /\ w = w') : FCon Tryz.prog f [.s (.int .i64 m), .s (.int .i64 n)] (fun x _ => x = r) := by
 refine ⟨fun vs w => ?_, fun w g vs hS hu hl' hv => ?_⟩
 ·have hname' : ¬ fn.name = "runtime.NumGoroutine" := by simpa using hname
  have hbn : ¬ fn.body = none := by rw [hb]; simp
  simp [callFunc, hf, hname', hbn]
 ·match vs, hl', hv with
  | [x, y], _, hv =>
   have e1 := Rep.s_inv (show Rep g.S g.up w _ (.s (.int .i64 m)) x from hv 0 _ x rfl rfl)
   have e2 := Rep.s_inv (show Rep g.S g.up w _ (.s (.int .i64 n)) y from hv 1 _ y rfl rfl)
   subst e1 e2
   refine (h w).mono ?_
   rintro e w' ⟨rfl, rfl⟩
   exact ⟨v, ⟨fun _ => none, fun _ => 0, fun _ => none, g.S⟩, r, [], rfl, Below.refl _ _, fun b _ _ => rfl, fun _ q => q, fun _ _ q => .inl q, hS, fun b p q => (by cases q), rfl, hr _ _, fun j d u q => (by simp at q)⟩
theorem RNs.ib {g : Gh} {w : World} {n : Int} {b : Bool} : RNs g w (.tup [.s (.int .i64 n), .s (.bool b)]) (.tuple #[.int .i64 n, .bool b]) := ⟨[.int .i64 n, .bool b], rfl, rfl, fun j x u hx hu => by
  match j, hx, hu with
  | 0, hx, hu => simp at hx hu; subst hx hu; exact Rep.s rfl
  | 1, hx, hu => simp at hx hu; subst hx hu; exact Rep.s rfl⟩
theorem RNs.i {g : Gh} {w : World} {n : Int} : RNs g w (.s (.int .i64 n)) (.int .i64 n) := Rep.s rfl
def divQ (m n : Int) : D := if wrap63 n == 0 then .tup [.s (.int .i64 0), .s (.bool false)] else .tup [.s (.int .i64 (wrap63 ((wrap63 m).tdiv (wrap63 n)))), .s (.bool true)]
def remQ (m n : Int) : D := if wrap63 n == 0 then .tup [.s (.int .i64 0), .s (.bool false)] else .tup [.s (.int .i64 ((wrap63 m).tmod (wrap63 n))), .s (.bool true)]
theorem c_iAddW (m n : Int) : FCon Tryz.prog 223 [.s (.int .i64 m), .s (.int .i64 n)] (fun r _ => r = .s (.int .i64 (wrap63 (m + n)))) := FCon.ofInt2 Tryz.func223 rfl rfl m n (fun _ _ => RNs.i) fun w => impl_AddW w m n
theorem c_iSubW (m n : Int) : FCon Tryz.prog 224 [.s (.int .i64 m), .s (.int .i64 n)] (fun r _ => r = .s (.int .i64 (wrap63 (m - n)))) := FCon.ofInt2 Tryz.func224 rfl rfl m n (fun _ _ => RNs.i) fun w => impl_SubW w m n
theorem c_iMulW (m n : Int) : FCon Tryz.prog 225 [.s (.int .i64 m), .s (.int .i64 n)] (fun r _ => r = .s (.int .i64 (wrap63 (m * n)))) := FCon.ofInt2 Tryz.func225 rfl rfl m n (fun _ _ => RNs.i) fun w => impl_MulW w m n
theorem c_iDivW (m n : Int) : FCon Tryz.prog 226 [.s (.int .i64 m), .s (.int .i64 n)] (fun r _ => r = divQ m n) := by
 unfold divQ
 cases h : (wrap63 n == 0) with
 | true => exact FCon.ofInt2 Tryz.func226 rfl rfl m n (fun _ _ => RNs.ib) fun w => Uc w m n h
 | false => exact FCon.ofInt2 Tryz.func226 rfl rfl m n (fun _ _ => RNs.ib) fun w => impl_DivW w m n h
theorem c_iRemW (m n : Int) : FCon Tryz.prog 227 [.s (.int .i64 m), .s (.int .i64 n)] (fun r _ => r = remQ m n) := by
 unfold remQ
 cases h : (wrap63 n == 0) with
 | true => exact FCon.ofInt2 Tryz.func227 rfl rfl m n (fun _ _ => RNs.ib) fun w => Ud w m n h
 | false => exact FCon.ofInt2 Tryz.func227 rfl rfl m n (fun _ _ => RNs.ib) fun w => impl_RemW w m n h
def primR (s : ByteArray) (m n : Int) : Int × Bool × Bool := match zJ s m n with
 | some (v, t) => (v, t, true)
 | none => (0, false, false)
theorem Y9 (b : Bool) : FCon Tryz.prog 222 [.s (.bool b)] (fun r _ => r = .tup [.s (.int .i64 (if b then 1 else 0)), .s (.bool true), .s (.bool true)]) := by
 cases b with
 | true =>
  refine FI PM Tryz.func222 Tryz.ntmps222 [] rfl rfl ?_
  (have hWf := f0; repeat' (first | refine zS ?_ | refine zI ?_ ?_ | exact zF0 | refine zD fun hb => ?_ | exact zC | refine zT ?_ | fail))
 | false =>
  refine FI PM Tryz.func222 Tryz.ntmps222 [] rfl rfl ?_
  (have hWf := f0; repeat' (first | refine zS ?_ | refine zI ?_ ?_ | exact zF0 | refine zD fun hb => ?_ | exact zC | refine zT ?_ | fail))
def primO : Option (Int × Bool) -> Int × Bool × Bool
 | some (v, t) => (v, t, true)
 | none => (0, false, false)
theorem yP {s : ByteArray} {m n : Int} {o : Option (Int × Bool)} (h : zJ s m n = o) : primR s m n = primO o := by subst h; rfl
theorem ite_dec {p : Prop} [Decidable p] (a b : Int) : (if decide p = true then a else b) = if p then a else b := by simp
theorem t43 : (⟨#[43]⟩ : ByteArray).toList = [43] := by rw [ByteArray.toList_eq]
theorem t45 : (⟨#[45]⟩ : ByteArray).toList = [45] := by rw [ByteArray.toList_eq]
theorem t42 : (⟨#[42]⟩ : ByteArray).toList = [42] := by rw [ByteArray.toList_eq]
theorem t47 : (⟨#[47]⟩ : ByteArray).toList = [47] := by rw [ByteArray.toList_eq]
theorem t37 : (⟨#[37]⟩ : ByteArray).toList = [37] := by rw [ByteArray.toList_eq]
theorem t61 : (⟨#[61]⟩ : ByteArray).toList = [61] := by rw [ByteArray.toList_eq]
theorem t60 : (⟨#[60]⟩ : ByteArray).toList = [60] := by rw [ByteArray.toList_eq]
theorem t6062 : (⟨#[60, 62]⟩ : ByteArray).toList = [60, 62] := by rw [ByteArray.toList_eq]
theorem t94 : (⟨#[94]⟩ : ByteArray).toList = [94] := by rw [ByteArray.toList_eq]
theorem lT {s : ByteArray} {l : List UInt8} (h : s.toList = l) : (s.toList == l) = true := by simpa using h
theorem lF {s : ByteArray} {l : List UInt8} (h : ¬ s.toList = l) : (s.toList == l) = false := by simpa using h
theorem c_prim (s : ByteArray) (m n : Int) : FCon Tryz.prog 163 [.s (.string s), .s (.int .i64 m), .s (.int .i64 n)] (fun r _ => r = .tup [.s (.int .i64 (primR s m n).1), .s (.bool (primR s m n).2.1), .s (.bool (primR s m n).2.2)]) := by
 by_cases h1 : s.toList = [43]
 ·rw [yP (by unfold zJ; rw [if_pos h1])]
  refine FI PM Tryz.func163 Tryz.ntmps163 [] rfl rfl ?_
  (have hWf := w2 (lT h1) @t43; repeat' (first | refine zS ?_ | refine zI ?_ ?_ | refine zK (c_iAddW m n) ?_ | exact zF0 | refine zD fun hb => ?_ | exact zC | refine zT ?_ | fail))
  all_goals rfl
 have g1 := lF h1
 by_cases h2 : s.toList = [45]
 ·rw [yP (by unfold zJ; rw [if_neg h1, if_pos h2])]
  refine FI PM Tryz.func163 Tryz.ntmps163 [] rfl rfl ?_
  (have hWf := w4 @g1 (lT h2) @t43 @t45; repeat' (first | refine zS ?_ | refine zI ?_ ?_ | refine zK (c_iSubW m n) ?_ | exact zF0 | refine zD fun hb => ?_ | exact zC | refine zT ?_ | fail))
  all_goals rfl
 have g2 := lF h2
 by_cases h3 : s.toList = [42]
 ·rw [yP (by unfold zJ; rw [if_neg h1, if_neg h2, if_pos h3])]
  refine FI PM Tryz.func163 Tryz.ntmps163 [] rfl rfl ?_
  (have hWf := w6 @g1 @g2 (lT h3) @t43 @t45 @t42; repeat' (first | refine zS ?_ | refine zI ?_ ?_ | refine zK (c_iMulW m n) ?_ | exact zF0 | refine zD fun hb => ?_ | exact zC | refine zT ?_ | fail))
  all_goals rfl
 have g3 := lF h3
 by_cases h4 : s.toList = [47]
 ·have hd := c_iDivW m n
  unfold divQ at hd
  cases hz : (wrap63 n == 0) with
  | true =>
   rw [yP (by unfold zJ; rw [if_neg h1, if_neg h2, if_neg h3, if_pos h4, hz, if_pos rfl])]
   rw [hz, if_pos rfl] at hd
   refine FI PM Tryz.func163 Tryz.ntmps163 [] rfl rfl ?_
   (have hWf := w8 @g1 @g2 @g3 (lT h4) @t43 @t45 @t42 @t47; repeat' (first | refine zS ?_ | refine zI ?_ ?_ | refine zK (hd) ?_ | exact zF0 | refine zD fun hb => ?_ | exact zC | refine zT ?_ | fail))
   all_goals rfl
  | false =>
   rw [yP (by unfold zJ; rw [if_neg h1, if_neg h2, if_neg h3, if_pos h4, hz, if_neg (by decide)])]
   rw [hz, if_neg (by decide)] at hd
   refine FI PM Tryz.func163 Tryz.ntmps163 [] rfl rfl ?_
   (have hWf := w8 @g1 @g2 @g3 (lT h4) @t43 @t45 @t42 @t47; repeat' (first | refine zS ?_ | refine zI ?_ ?_ | refine zK (hd) ?_ | exact zF0 | refine zD fun hb => ?_ | exact zC | refine zT ?_ | fail))
   all_goals rfl
 have g4 := lF h4
 by_cases h5 : s.toList = [37]
 ·have hd := c_iRemW m n
  unfold remQ at hd
  cases hz : (wrap63 n == 0) with
  | true =>
   rw [yP (by unfold zJ; rw [if_neg h1, if_neg h2, if_neg h3, if_neg h4, if_pos h5, hz, if_pos rfl])]
   rw [hz, if_pos rfl] at hd
   refine FI PM Tryz.func163 Tryz.ntmps163 [] rfl rfl ?_
   (have hWf := w10 @g1 @g2 @g3 @g4 (lT h5) @t43 @t45 @t42 @t47 @t37; repeat' (first | refine zS ?_ | refine zI ?_ ?_ | refine zK (hd) ?_ | exact zF0 | refine zD fun hb => ?_ | exact zC | refine zT ?_ | fail))
   all_goals rfl
  | false =>
   rw [yP (by unfold zJ; rw [if_neg h1, if_neg h2, if_neg h3, if_neg h4, if_pos h5, hz, if_neg (by decide)])]
   rw [hz, if_neg (by decide)] at hd
   refine FI PM Tryz.func163 Tryz.ntmps163 [] rfl rfl ?_
   (have hWf := w10 @g1 @g2 @g3 @g4 (lT h5) @t43 @t45 @t42 @t47 @t37; repeat' (first | refine zS ?_ | refine zI ?_ ?_ | refine zK (hd) ?_ | exact zF0 | refine zD fun hb => ?_ | exact zC | refine zT ?_ | fail))
   all_goals rfl
 have g5 := lF h5
 by_cases h6 : s.toList = [61]
 ·rw [yP (by unfold zJ; rw [if_neg h1, if_neg h2, if_neg h3, if_neg h4, if_neg h5, if_pos h6])]
  have hc := Y9 (m == n)
  rw [show (if (m == n) = true then (1 : Int) else 0) = if m = n then 1 else 0 by simp] at hc
  refine FI PM Tryz.func163 Tryz.ntmps163 [] rfl rfl ?_
  (have hWf := w12 @g1 @g2 @g3 @g4 @g5 (lT h6) @t43 @t45 @t42 @t47 @t37 @t61; repeat' (first | refine zS ?_ | refine zI ?_ ?_ | refine zK (hc) ?_ | exact zF0 | refine zD fun hb => ?_ | exact zC | refine zT ?_ | fail))
  all_goals rfl
 have g6 := lF h6
 by_cases h7 : s.toList = [60, 62]
 ·rw [yP (by unfold zJ; rw [if_neg h1, if_neg h2, if_neg h3, if_neg h4, if_neg h5, if_neg h6, if_pos h7])]
  have hc := Y9 (m != n)
  rw [show (if (m != n) = true then (1 : Int) else 0) = if m = n then 0 else 1 by by_cases q : m = n <;> simp [q]] at hc
  refine FI PM Tryz.func163 Tryz.ntmps163 [] rfl rfl ?_
  (have hWf := w14 @g1 @g2 @g3 @g4 @g5 @g6 (lT h7) @t43 @t45 @t42 @t47 @t37 @t61 @t6062; repeat' (first | refine zS ?_ | refine zI ?_ ?_ | refine zK (hc) ?_ | exact zF0 | refine zD fun hb => ?_ | exact zC | refine zT ?_ | fail))
  all_goals rfl
 have g7 := lF h7
 by_cases h8 : s.toList = [60]
 ·rw [yP (by unfold zJ; rw [if_neg h1, if_neg h2, if_neg h3, if_neg h4, if_neg h5, if_neg h6, if_neg h7, if_pos h8])]
  have hc := Y9 (decide (m < n))
  rw [ite_dec] at hc
  refine FI PM Tryz.func163 Tryz.ntmps163 [] rfl rfl ?_
  (have hWf := w16 @g1 @g2 @g3 @g4 @g5 @g6 @g7 (lT h8) @t43 @t45 @t42 @t47 @t37 @t61 @t6062 @t60; repeat' (first | refine zS ?_ | refine zI ?_ ?_ | refine zK (hc) ?_ | exact zF0 | refine zD fun hb => ?_ | exact zC | refine zT ?_ | fail))
  all_goals rfl
 have g8 := lF h8
 rw [yP (by unfold zJ; rw [if_neg h1, if_neg h2, if_neg h3, if_neg h4, if_neg h5, if_neg h6, if_neg h7, if_neg h8])]
 have hc := Y9 (decide (m <= n))
 rw [ite_dec] at hc
 refine FI PM Tryz.func163 Tryz.ntmps163 [] rfl rfl ?_
 (have hWf := w16 @g1 @g2 @g3 @g4 @g5 @g6 @g7 @g8 @t43 @t45 @t42 @t47 @t37 @t61 @t6062 @t60; repeat' (first | refine zS ?_ | refine zI ?_ ?_ | refine zK (hc) ?_ | exact zF0 | refine zD fun hb => ?_ | exact zC | refine zT ?_ | fail))
 all_goals rfl
theorem QH (n : Int) : FCon Tryz.prog 164 [.s (.int .i64 n)] (fun r _ => r = .s (.string (if n = 1 then trueS else WK))) := by
 by_cases h : n = 1
 ·rw [if_pos h]
  refine FI PM Tryz.func164 Tryz.ntmps164 [] rfl rfl ?_
  (have hWf := w1 @h; repeat' (first | refine zS ?_ | refine zI ?_ ?_ | exact zF0 | refine zD fun hb => ?_ | exact zC | refine zT ?_ | fail))
  rfl
 ·rw [if_neg h]
  have f := yB h
  refine FI PM Tryz.func164 Tryz.ntmps164 [] rfl rfl ?_
  (have hWf := w1 @f; repeat' (first | refine zS ?_ | refine zI ?_ ?_ | exact zF0 | refine zD fun hb => ?_ | exact zC | refine zT ?_ | fail))
  rfl
theorem FCon.leaf {P : Program} {f : FuncId} {args : List D} {d : EI} (hp : d.pats = []) (h : FCon P f args (fun r _ => frA r = .pt [.s (.int .i64 d.kind), .s (.int .i64 d.at_), .s (.int .i64 d.n), .s (.string d.s), .nil, .nil])) : FCon P f args (fun r _ => r = exE (.mk d [])) := by
 refine h.ice.wk fun r o e => ?_
 subst e
 rw [xM, hp]
 refine ⟨_, rfl, fun g w v q => ?_⟩
 have q : Rep g.S g.up w (some (.ans 0 0)) (.pt [.s (.int .i64 d.kind), .s (.int .i64 d.at_), .s (.int .i64 d.n), .s (.string d.s), .nil, .nil]) v := q
 show Rep g.S g.up w (some (.ans 0 0)) (.pt _) v
 cases q with
 | pt us a1 a2 =>
  refine .pt us (fun j y hy => ?_) fun j y hy => ?_
  ·match j, hy with
   | 0, hy => exact a1 0 _ rfl
   | 1, hy => exact a1 1 _ rfl
   | 2, hy => exact a1 2 _ rfl
   | 3, hy => exact a1 3 _ rfl
   | 4, hy => exact a1 4 _ rfl
   | 5, hy => exact a1 5 _ rfl
  ·match j, hy with
   | 0, hy => exact (by simpa using hy) ▸ a2 0 _ rfl
   | 1, hy => exact (by simpa using hy) ▸ a2 1 _ rfl
   | 2, hy => exact (by simpa using hy) ▸ a2 2 _ rfl
   | 3, hy => exact (by simpa using hy) ▸ a2 3 _ rfl
   | 4, hy => exact (by simpa using hy) ▸ Rep.nil_sl 1 (a2 4 _ rfl)
   | 5, hy => exact (by simpa using hy) ▸ Rep.nil_sl 1 (a2 5 _ rfl)
theorem foldP_94 {a x y : EI} (h : a.s.toList = [94]) : yV a x y = if x.kind = 2 /\ y.kind = 2 /\ x.s.size + y.s.size <= 1000 then some ⟨2, a.at_, 0, x.s ++ y.s, []⟩ else none := by unfold yV; rw [if_pos h]
theorem foldP_no {a x y : EI} (h : ¬ a.s.toList = [94]) : yV a x y = if x.kind = 1 /\ y.kind = 1 then
  (match zJ a.s x.n y.n with
   | some (v, true) => some ⟨4, a.at_, 0, if v = 1 then trueS else WK, []⟩
   | some (v, false) => if 0 <= v then some ⟨1, a.at_, v, noS, []⟩ else none
   | none => none)
 else none := by unfold yV; rw [if_neg h] <;> rfl
def vg (a b c : EI) (r1 r2 : List ET) : ET := match yV a b c with
 | some d => .mk d []
 | none => .mk a [.mk b r1, .mk c r2]
theorem Xq {a b c d : EI} {r1 r2 : List ET} (h : yV a b c = some d) : vg a b c r1 r2 = .mk d [] := by unfold vg; rw [h]
theorem zO {a b c : EI} {r1 r2 : List ET} (h : yV a b c = none) : vg a b c r1 r2 = .mk a [.mk b r1, .mk c r2] := by unfold vg; rw [h]
theorem ex2 (a b c : EI) (r1 r2 : List ET) : exE (.mk a [.mk b r1, .mk c r2]) = .pt [.s (.int .i64 a.kind), .s (.int .i64 a.at_), .s (.int .i64 a.n), .s (.string a.s), .sl 1 [[.pt [.s (.int .i64 b.kind), .s (.int .i64 b.at_), .s (.int .i64 b.n), .s (.string b.s), .sl 1 (r1.map exS), .sl 1 (b.pats.map MPat.enc)]], [.pt [.s (.int .i64 c.kind), .s (.int .i64 c.at_), .s (.int .i64 c.n), .s (.string c.s), .sl 1 (r2.map exS), .sl 1 (c.pats.map MPat.enc)]]], .sl 1 (a.pats.map MPat.enc)] := by
 rw [xM, List.map_cons, List.map_cons, List.map_nil, vH, vH]
theorem Xf {k z : Int} (h : k = z) : (k == z) = true := by simpa using h
theorem kindNF {k z : Int} (h : ¬ k = z) : (k != z) = true := by simpa using h
theorem kindNT {k z : Int} (h : k = z) : (k != z) = false := by simpa using h
theorem Q8 (a b c : EI) (r1 r2 : List ET) (hx : b.s.size <= 1048576) (hy : c.s.size <= 1048576) : FCon Tryz.prog 80 [exE (.mk a [.mk b r1, .mk c r2])] (fun r _ => r = exE (vg a b c r1 r2)) := by
 by_cases h94 : a.s.toList = [94]
 ·have hP := foldP_94 (x := b) (y := c) h94
  by_cases kb : b.kind = 2
  ·by_cases kc : c.kind = 2
   ·by_cases hz : b.s.size + c.s.size <= 1000
    ·rw [if_pos ⟨kb, kc, hz⟩] at hP
     rw [Xq hP, ex2]
     refine FCon.leaf rfl ?_
     refine FI PM Tryz.func80 Tryz.ntmps80 [(1, 13, [], [], (lin [] [0, 1, 2, 3, 4, 5, 6, 7, 8, 9, 10, 11, 12])), (3, 23, [], [], (lin [] [0, 1, 2, 3, 4, 5, 6, 7, 8, 9, 10, 11, 12, 13, 14, 15, 16, 17, 18, 19, 20, 21, 22])), (4, 13, [], [], (lin [] [0, 1, 2, 3, 4, 5, 6, 7, 8, 9, 10, 11, 12])), (8, 19, [], [], (lin [] [0, 1, 2, 3, 4, 5, 6, 7, 8, 9, 10, 11, 12, 13, 14, 15, 16, 17, 18])), (10, 6, [], [], (lin [] [0, 1, 2, 3, 4, 5]))] rfl rfl ?_
     (have hWf := w4 (lT h94) @t94 @kb @kc; repeat' (first | refine zS ?_ | refine zI ?_ ?_ | exact zF0 | refine zD fun hb => ?_ | exact zC | refine zT ?_ | fail))
     all_goals simp only [frA, frz, frzL, go_sem]
    ·rw [if_neg (fun q => hz q.2.2)] at hP
     rw [zO hP, ex2]
     refine FI PM Tryz.func80 Tryz.ntmps80 [(1, 13, [], [], (lin [] [0, 1, 2, 3, 4, 5, 6, 7, 8, 9, 10, 11, 12])), (3, 23, [], [], (lin [] [0, 1, 2, 3, 4, 5, 6, 7, 8, 9, 10, 11, 12, 13, 14, 15, 16, 17, 18, 19, 20, 21, 22])), (4, 13, [], [], (lin [] [0, 1, 2, 3, 4, 5, 6, 7, 8, 9, 10, 11, 12])), (8, 19, [], [], (lin [] [0, 1, 2, 3, 4, 5, 6, 7, 8, 9, 10, 11, 12, 13, 14, 15, 16, 17, 18])), (10, 6, [], [], (lin [] [0, 1, 2, 3, 4, 5]))] rfl rfl ?_
     (have hWf := w4 (lT h94) @t94 @kb @kc; repeat' (first | refine zS ?_ | refine zI ?_ ?_ | exact zF0 | refine zD fun hb => ?_ | exact zC | refine zT ?_ | fail))
   ·have f := yB kc
    rw [if_neg (fun q => kc q.2.1)] at hP
    rw [zO hP, ex2]
    refine FI PM Tryz.func80 Tryz.ntmps80 [(1, 13, [], [], (lin [] [0, 1, 2, 3, 4, 5, 6, 7, 8, 9, 10, 11, 12])), (3, 23, [], [], (lin [] [0, 1, 2, 3, 4, 5, 6, 7, 8, 9, 10, 11, 12, 13, 14, 15, 16, 17, 18, 19, 20, 21, 22])), (4, 13, [], [], (lin [] [0, 1, 2, 3, 4, 5, 6, 7, 8, 9, 10, 11, 12])), (8, 19, [], [], (lin [] [0, 1, 2, 3, 4, 5, 6, 7, 8, 9, 10, 11, 12, 13, 14, 15, 16, 17, 18])), (10, 6, [], [], (lin [] [0, 1, 2, 3, 4, 5]))] rfl rfl ?_
    (have hWf := w4 (lT h94) @t94 @kb @f; repeat' (first | refine zS ?_ | refine zI ?_ ?_ | exact zF0 | refine zD fun hb => ?_ | exact zC | refine zT ?_ | fail))
  ·have f := yB kb
   rw [if_neg (fun q => kb q.1)] at hP
   rw [zO hP, ex2]
   refine FI PM Tryz.func80 Tryz.ntmps80 [(1, 13, [], [], (lin [] [0, 1, 2, 3, 4, 5, 6, 7, 8, 9, 10, 11, 12])), (3, 23, [], [], (lin [] [0, 1, 2, 3, 4, 5, 6, 7, 8, 9, 10, 11, 12, 13, 14, 15, 16, 17, 18, 19, 20, 21, 22])), (4, 13, [], [], (lin [] [0, 1, 2, 3, 4, 5, 6, 7, 8, 9, 10, 11, 12])), (8, 19, [], [], (lin [] [0, 1, 2, 3, 4, 5, 6, 7, 8, 9, 10, 11, 12, 13, 14, 15, 16, 17, 18])), (10, 6, [], [], (lin [] [0, 1, 2, 3, 4, 5]))] rfl rfl ?_
   (have hWf := w3 (lT h94) @t94 @f; repeat' (first | refine zS ?_ | refine zI ?_ ?_ | exact zF0 | refine zD fun hb => ?_ | exact zC | refine zT ?_ | fail))
 ·have hP := foldP_no (x := b) (y := c) h94
  have g94 := lF h94
  by_cases kb : b.kind = 1
  ·by_cases kc : c.kind = 1
   ·rw [if_pos ⟨kb, kc⟩] at hP
    have n1 := kindNT kb
    have n2 := kindNT kc
    have hpr := c_prim a.s b.n c.n
    cases hq : zJ a.s b.n c.n with
    | none =>
     rw [hq] at hP
     rw [yP hq] at hpr
     have hpr : FCon Tryz.prog 163 [.s (.string a.s), .s (.int .i64 b.n), .s (.int .i64 c.n)] (fun r _ => r = .tup [.s (.int .i64 0), .s (.bool false), .s (.bool false)]) := hpr
     rw [zO hP, ex2]
     refine FI PM Tryz.func80 Tryz.ntmps80 [(1, 13, [], [], (lin [] [0, 1, 2, 3, 4, 5, 6, 7, 8, 9, 10, 11, 12])), (3, 23, [], [], (lin [] [0, 1, 2, 3, 4, 5, 6, 7, 8, 9, 10, 11, 12, 13, 14, 15, 16, 17, 18, 19, 20, 21, 22])), (4, 13, [], [], (lin [] [0, 1, 2, 3, 4, 5, 6, 7, 8, 9, 10, 11, 12])), (8, 19, [], [], (lin [] [0, 1, 2, 3, 4, 5, 6, 7, 8, 9, 10, 11, 12, 13, 14, 15, 16, 17, 18])), (10, 6, [], [], (lin [] [0, 1, 2, 3, 4, 5]))] rfl rfl ?_
     (have hWf := w4 @g94 @t94 @n1 @n2; repeat' (first | refine zS ?_ | refine zI ?_ ?_ | refine zK (hpr) ?_ | exact zF0 | refine zD fun hb => ?_ | exact zC | refine zT ?_ | fail))
    | some vt =>
     obtain ⟨v, tr⟩ := vt
     rw [hq] at hP
     rw [yP hq] at hpr
     have hpr : FCon Tryz.prog 163 [.s (.string a.s), .s (.int .i64 b.n), .s (.int .i64 c.n)] (fun r _ => r = .tup [.s (.int .i64 v), .s (.bool tr), .s (.bool true)]) := hpr
     have htn := QH v
     cases tr with
     | true =>
      rw [Xq hP, ex2]
      refine FCon.leaf rfl ?_
      refine FI PM Tryz.func80 Tryz.ntmps80 [(1, 13, [], [], (lin [] [0, 1, 2, 3, 4, 5, 6, 7, 8, 9, 10, 11, 12])), (3, 23, [], [], (lin [] [0, 1, 2, 3, 4, 5, 6, 7, 8, 9, 10, 11, 12, 13, 14, 15, 16, 17, 18, 19, 20, 21, 22])), (4, 13, [], [], (lin [] [0, 1, 2, 3, 4, 5, 6, 7, 8, 9, 10, 11, 12])), (8, 19, [], [], (lin [] [0, 1, 2, 3, 4, 5, 6, 7, 8, 9, 10, 11, 12, 13, 14, 15, 16, 17, 18])), (10, 6, [], [], (lin [] [0, 1, 2, 3, 4, 5]))] rfl rfl ?_
      (have hWf := w4 @g94 @t94 @n1 @n2; repeat' (first | refine zS ?_ | refine zI ?_ ?_ | refine zK (hpr) ?_ | refine zK (htn) ?_ | exact zF0 | refine zD fun hb => ?_ | exact zC | refine zT ?_ | fail))
      all_goals simp only [frA, frz, frzL, go_sem]
     | false =>
      by_cases hv : 0 <= v
      ·simp only [if_pos hv] at hP
       rw [Xq hP, ex2]
       refine FCon.leaf rfl ?_
       refine FI PM Tryz.func80 Tryz.ntmps80 [(1, 13, [], [], (lin [] [0, 1, 2, 3, 4, 5, 6, 7, 8, 9, 10, 11, 12])), (3, 23, [], [], (lin [] [0, 1, 2, 3, 4, 5, 6, 7, 8, 9, 10, 11, 12, 13, 14, 15, 16, 17, 18, 19, 20, 21, 22])), (4, 13, [], [], (lin [] [0, 1, 2, 3, 4, 5, 6, 7, 8, 9, 10, 11, 12])), (8, 19, [], [], (lin [] [0, 1, 2, 3, 4, 5, 6, 7, 8, 9, 10, 11, 12, 13, 14, 15, 16, 17, 18])), (10, 6, [], [], (lin [] [0, 1, 2, 3, 4, 5]))] rfl rfl ?_
       (have hWf := w4 @g94 @t94 @n1 @n2; repeat' (first | refine zS ?_ | refine zI ?_ ?_ | refine zK (hpr) ?_ | exact zF0 | refine zD fun hb => ?_ | exact zC | refine zT ?_ | fail))
       all_goals rfl
      ·simp only [if_neg hv] at hP
       rw [zO hP, ex2]
       refine FI PM Tryz.func80 Tryz.ntmps80 [(1, 13, [], [], (lin [] [0, 1, 2, 3, 4, 5, 6, 7, 8, 9, 10, 11, 12])), (3, 23, [], [], (lin [] [0, 1, 2, 3, 4, 5, 6, 7, 8, 9, 10, 11, 12, 13, 14, 15, 16, 17, 18, 19, 20, 21, 22])), (4, 13, [], [], (lin [] [0, 1, 2, 3, 4, 5, 6, 7, 8, 9, 10, 11, 12])), (8, 19, [], [], (lin [] [0, 1, 2, 3, 4, 5, 6, 7, 8, 9, 10, 11, 12, 13, 14, 15, 16, 17, 18])), (10, 6, [], [], (lin [] [0, 1, 2, 3, 4, 5]))] rfl rfl ?_
       (have hWf := w4 @g94 @t94 @n1 @n2; repeat' (first | refine zS ?_ | refine zI ?_ ?_ | refine zK (hpr) ?_ | exact zF0 | refine zD fun hb => ?_ | exact zC | refine zT ?_ | fail))
   ·have f := kindNF kc
    have n1 := kindNT kb
    rw [if_neg (fun q => kc q.2)] at hP
    rw [zO hP, ex2]
    refine FI PM Tryz.func80 Tryz.ntmps80 [(1, 13, [], [], (lin [] [0, 1, 2, 3, 4, 5, 6, 7, 8, 9, 10, 11, 12])), (3, 23, [], [], (lin [] [0, 1, 2, 3, 4, 5, 6, 7, 8, 9, 10, 11, 12, 13, 14, 15, 16, 17, 18, 19, 20, 21, 22])), (4, 13, [], [], (lin [] [0, 1, 2, 3, 4, 5, 6, 7, 8, 9, 10, 11, 12])), (8, 19, [], [], (lin [] [0, 1, 2, 3, 4, 5, 6, 7, 8, 9, 10, 11, 12, 13, 14, 15, 16, 17, 18])), (10, 6, [], [], (lin [] [0, 1, 2, 3, 4, 5]))] rfl rfl ?_
    (have hWf := w4 @g94 @t94 @n1 @f; repeat' (first | refine zS ?_ | refine zI ?_ ?_ | exact zF0 | refine zD fun hb => ?_ | exact zC | refine zT ?_ | fail))
  ·have f := kindNF kb
   rw [if_neg (fun q => kb q.1)] at hP
   rw [zO hP, ex2]
   refine FI PM Tryz.func80 Tryz.ntmps80 [(1, 13, [], [], (lin [] [0, 1, 2, 3, 4, 5, 6, 7, 8, 9, 10, 11, 12])), (3, 23, [], [], (lin [] [0, 1, 2, 3, 4, 5, 6, 7, 8, 9, 10, 11, 12, 13, 14, 15, 16, 17, 18, 19, 20, 21, 22])), (4, 13, [], [], (lin [] [0, 1, 2, 3, 4, 5, 6, 7, 8, 9, 10, 11, 12])), (8, 19, [], [], (lin [] [0, 1, 2, 3, 4, 5, 6, 7, 8, 9, 10, 11, 12, 13, 14, 15, 16, 17, 18])), (10, 6, [], [], (lin [] [0, 1, 2, 3, 4, 5]))] rfl rfl ?_
   (have hWf := w3 @g94 @t94 @f; repeat' (first | refine zS ?_ | refine zI ?_ ?_ | exact zF0 | refine zD fun hb => ?_ | exact zC | refine zT ?_ | fail))
theorem ex3 (a b c d : EI) (r1 r2 r3 : List ET) : exE (.mk a [.mk b r1, .mk c r2, .mk d r3]) = .pt [.s (.int .i64 a.kind), .s (.int .i64 a.at_), .s (.int .i64 a.n), .s (.string a.s), .sl 1 [[.pt [.s (.int .i64 b.kind), .s (.int .i64 b.at_), .s (.int .i64 b.n), .s (.string b.s), .sl 1 (r1.map exS), .sl 1 (b.pats.map MPat.enc)]], [.pt [.s (.int .i64 c.kind), .s (.int .i64 c.at_), .s (.int .i64 c.n), .s (.string c.s), .sl 1 (r2.map exS), .sl 1 (c.pats.map MPat.enc)]], [.pt [.s (.int .i64 d.kind), .s (.int .i64 d.at_), .s (.int .i64 d.n), .s (.string d.s), .sl 1 (r3.map exS), .sl 1 (d.pats.map MPat.enc)]]], .sl 1 (a.pats.map MPat.enc)] := by
 rw [xM, List.map_cons, List.map_cons, List.map_cons, List.map_nil, vH, vH, vH]
theorem VL (a : EI) (l : List ET) (h1 : a.kind ≠ 10) (h2 : a.kind ≠ 9) (h3 : a.kind ≠ 19) (h4 : a.kind ≠ 7) : FCon Tryz.prog 32 [exE (.mk a l)] (fun r _ => r = exE (x9 id id a l)) := by
 have e : x9 id id a l = .mk a l := by unfold x9; simp only [id]; rw [if_neg h1, if_neg h2, if_neg h3, if_neg h4]
 have f1 := yB h1
 have f2 := yB h2
 have f3 := yB h3
 have f4 := yB h4
 rw [e, xM]
 refine FI PM Tryz.func32 Tryz.ntmps32 [(15, 20, [], [], (lin [] [0, 1, 2, 3, 4, 5, 6, 7, 8, 9, 10, 11, 12, 13, 14, 15, 16, 17, 18, 19]))] rfl rfl ?_
 (have hWf := w4 @f1 @f2 @f3 @f4; repeat' (first | refine zS ?_ | refine zI ?_ ?_ | exact zF0 | refine zD fun hb => ?_ | exact zC | refine zT ?_ | fail))
theorem QM (a b c : EI) (r1 r2 : List ET) (h1 : a.kind = 10) (hx : b.s.size <= 1048576) (hy : c.s.size <= 1048576) : FCon Tryz.prog 32 [exE (.mk a [.mk b r1, .mk c r2])] (fun r _ => r = exE (x9 id id a [.mk b r1, .mk c r2])) := by
 have hc := Q8 a b c r1 r2 hx hy
 have e : x9 id id a [.mk b r1, .mk c r2] = vg a b c r1 r2 := by unfold x9 vg; simp only [id]; rw [if_pos h1]; rfl
 have f1 := Xf h1
 obtain ⟨d, r, hd⟩ : ∃ d r, vg a b c r1 r2 = .mk d r := ⟨_, _, Arb.eta _⟩
 rw [e, hd]
 rw [hd] at hc
 rw [ex2, xM] at hc ⊢
 refine FI PM Tryz.func32 Tryz.ntmps32 [(15, 20, [], [], (lin [] [0, 1, 2, 3, 4, 5, 6, 7, 8, 9, 10, 11, 12, 13, 14, 15, 16, 17, 18, 19]))] rfl rfl ?_
 (have hWf := w1 @f1; repeat' (first | refine zS ?_ | refine zI ?_ ?_ | refine zK (hc) ?_ | exact zF0 | refine zD fun hb => ?_ | exact zC | refine zT ?_ | fail))
theorem folded_if (a b c d : EI) (r1 r2 r3 : List ET) (h2 : a.kind = 9) : FCon Tryz.prog 32 [exE (.mk a [.mk b r1, .mk c r2, .mk d r3])] (fun r _ => r = exE (x9 id id a [.mk b r1, .mk c r2, .mk d r3])) := by
 have h1 : ¬ a.kind = 10 := by omega
 have hc := c_truthOf b r1
 have e : x9 id id a [.mk b r1, .mk c r2, .mk d r3] = if wT b = 1 then .mk c r2 else if wT b = 0 then .mk d r3 else .mk a [.mk b r1, .mk c r2, .mk d r3] := by unfold x9; simp only [id]; rw [if_neg h1, if_pos h2]; rfl
 have f1 := yB h1
 have f2 := Xf h2
 rw [e]
 rw [xM] at hc
 by_cases t1 : wT b = 1
 ·have g1 := Xf t1
  rw [if_pos t1, ex3, xM]
  refine FI PM Tryz.func32 Tryz.ntmps32 [(15, 20, [], [], (lin [] [0, 1, 2, 3, 4, 5, 6, 7, 8, 9, 10, 11, 12, 13, 14, 15, 16, 17, 18, 19]))] rfl rfl ?_
  (have hWf := w3 @f1 @f2 @g1; repeat' (first | refine zS ?_ | refine zI ?_ ?_ | refine zK (hc) ?_ | exact zF0 | refine zD fun hb => ?_ | exact zC | refine zT ?_ | fail))
 ·have g1 := yB t1
  by_cases t0 : wT b = 0
  ·have g0 := Xf t0
   rw [if_neg t1, if_pos t0, ex3, xM]
   refine FI PM Tryz.func32 Tryz.ntmps32 [(15, 20, [], [], (lin [] [0, 1, 2, 3, 4, 5, 6, 7, 8, 9, 10, 11, 12, 13, 14, 15, 16, 17, 18, 19]))] rfl rfl ?_
   (have hWf := w4 @f1 @f2 @g1 @g0; repeat' (first | refine zS ?_ | refine zI ?_ ?_ | refine zK (hc) ?_ | exact zF0 | refine zD fun hb => ?_ | exact zC | refine zT ?_ | fail))
  ·have g0 := yB t0
   have f3 : (a.kind == 19) = false := by rw [h2]; rfl
   have f4 : (a.kind == 7) = false := by rw [h2]; rfl
   rw [if_neg t1, if_neg t0, ex3]
   refine FI PM Tryz.func32 Tryz.ntmps32 [(15, 20, [], [], (lin [] [0, 1, 2, 3, 4, 5, 6, 7, 8, 9, 10, 11, 12, 13, 14, 15, 16, 17, 18, 19]))] rfl rfl ?_
   (have hWf := w6 @f1 @f2 @g1 @g0 @f3 @f4; repeat' (first | refine zS ?_ | refine zI ?_ ?_ | refine zK (hc) ?_ | exact zF0 | refine zD fun hb => ?_ | exact zC | refine zT ?_ | fail))
theorem xaw (a b c : EI) (r1 r2 : List ET) (h3 : a.kind = 19) : FCon Tryz.prog 32 [exE (.mk a [.mk b r1, .mk c r2])] (fun r _ => r = exE (x9 id id a [.mk b r1, .mk c r2])) := by
 have h1 : ¬ a.kind = 10 := by omega
 have h2 : ¬ a.kind = 9 := by omega
 have e : x9 id id a [.mk b r1, .mk c r2] = if b.kind = 12 then .mk c r2 else .mk a [.mk b r1, .mk c r2] := by unfold x9; simp only [id]; rw [if_neg h1, if_neg h2, if_pos h3]; rfl
 have f1 := yB h1
 have f2 := yB h2
 have f3 := Xf h3
 rw [e]
 by_cases t1 : b.kind = 12
 ·have g1 := Xf t1
  rw [if_pos t1, ex2, xM]
  refine FI PM Tryz.func32 Tryz.ntmps32 [(15, 20, [], [], (lin [] [0, 1, 2, 3, 4, 5, 6, 7, 8, 9, 10, 11, 12, 13, 14, 15, 16, 17, 18, 19]))] rfl rfl ?_
  (have hWf := w4 @f1 @f2 @f3 @g1; repeat' (first | refine zS ?_ | refine zI ?_ ?_ | exact zF0 | refine zD fun hb => ?_ | exact zC | refine zT ?_ | fail))
 ·have g1 := yB t1
  have f4 : (a.kind == 7) = false := by rw [h3]; rfl
  rw [if_neg t1, ex2]
  refine FI PM Tryz.func32 Tryz.ntmps32 [(15, 20, [], [], (lin [] [0, 1, 2, 3, 4, 5, 6, 7, 8, 9, 10, 11, 12, 13, 14, 15, 16, 17, 18, 19]))] rfl rfl ?_
  (have hWf := w5 @f1 @f2 @f3 @g1 @f4; repeat' (first | refine zS ?_ | refine zI ?_ ?_ | exact zF0 | refine zD fun hb => ?_ | exact zC | refine zT ?_ | fail))
theorem plainM_eq (b : EI) (n : Nat) : YS b n = (isPl b n || (b.kind == 5)) := by
 unfold YS isPl
 rw [Bool.eq_iff_iff]
 simp only [Bool.or_eq_true, Bool.and_eq_true, decide_eq_true_eq, beq_iff_eq]
 omega
theorem xav (a b c : EI) (r1 r2 : List ET) (h4 : a.kind = 7) (hA : All cntN (.mk c r2)) (hs : (Arb.mk c r2).size <= 1000000) : FCon Tryz.prog 32 [exE (.mk a [.mk b r1, .mk c r2])] (fun r _ => r = exE (x9 id id a [.mk b r1, .mk c r2])) := by
 have h1 : ¬ a.kind = 10 := by omega
 have h2 : ¬ a.kind = 9 := by omega
 have h3 : ¬ a.kind = 19 := by omega
 have e : x9 id id a [.mk b r1, .mk c r2] = if YS b r1.length = true /\ yO a.s (.mk c r2) = 0 then .mk c r2 else .mk a [.mk b r1, .mk c r2] := by
  unfold x9; simp only [id]; rw [if_neg h1, if_neg h2, if_neg h3, if_pos h4]
  show (if YS b r1.length = true /\ yO a.s (mapA id (.mk c r2)) = 0 then _ else _) = _
  rw [mapA_id]
 have hp := c_isPlain b r1
 have hc := c_count a.s (.mk c r2) hA hs
 have f1 := yB h1
 have f2 := yB h2
 have f3 := yB h3
 have f4 := Xf h4
 rw [e]
 rw [xM] at hp hc
 rw [plainM_eq]
 cases p1 : isPl b r1.length with
 | true =>
  rw [p1] at hp
  by_cases hn : yO a.s (.mk c r2) = 0
  ·have g1 : ((yO a.s (.mk c r2) : Int) == 0) = true := by rw [hn]; rfl
   rw [if_pos ⟨rfl, hn⟩, ex2, xM]
   refine FI PM Tryz.func32 Tryz.ntmps32 [(15, 20, [], [], (lin [] [0, 1, 2, 3, 4, 5, 6, 7, 8, 9, 10, 11, 12, 13, 14, 15, 16, 17, 18, 19]))] rfl rfl ?_
   (have hWf := w5 @f1 @f2 @f3 @f4 @g1; repeat' (first | refine zS ?_ | refine zI ?_ ?_ | refine zK (hp) ?_ | refine zK (hc) ?_ | exact zF0 | refine zD fun hb => ?_ | exact zC | refine zT ?_ | fail))
  ·have g1 : ((yO a.s (.mk c r2) : Int) == 0) = false := by simpa using hn
   rw [if_neg (fun q => hn q.2), ex2]
   refine FI PM Tryz.func32 Tryz.ntmps32 [(15, 20, [], [], (lin [] [0, 1, 2, 3, 4, 5, 6, 7, 8, 9, 10, 11, 12, 13, 14, 15, 16, 17, 18, 19]))] rfl rfl ?_
   (have hWf := w5 @f1 @f2 @f3 @f4 @g1; repeat' (first | refine zS ?_ | refine zI ?_ ?_ | refine zK (hp) ?_ | refine zK (hc) ?_ | exact zF0 | refine zD fun hb => ?_ | exact zC | refine zT ?_ | fail))
 | false =>
  rw [p1] at hp
  by_cases k5 : b.kind = 5
  ·have g5 := Xf k5
   by_cases hn : yO a.s (.mk c r2) = 0
   ·have g1 : ((yO a.s (.mk c r2) : Int) == 0) = true := by rw [hn]; rfl
    rw [if_pos ⟨by rw [g5]; rfl, hn⟩, ex2, xM]
    refine FI PM Tryz.func32 Tryz.ntmps32 [(15, 20, [], [], (lin [] [0, 1, 2, 3, 4, 5, 6, 7, 8, 9, 10, 11, 12, 13, 14, 15, 16, 17, 18, 19]))] rfl rfl ?_
    (have hWf := w6 @f1 @f2 @f3 @f4 @g1 @g5; repeat' (first | refine zS ?_ | refine zI ?_ ?_ | refine zK (hp) ?_ | refine zK (hc) ?_ | exact zF0 | refine zD fun hb => ?_ | exact zC | refine zT ?_ | fail))
   ·have g1 : ((yO a.s (.mk c r2) : Int) == 0) = false := by simpa using hn
    rw [if_neg (fun q => hn q.2), ex2]
    refine FI PM Tryz.func32 Tryz.ntmps32 [(15, 20, [], [], (lin [] [0, 1, 2, 3, 4, 5, 6, 7, 8, 9, 10, 11, 12, 13, 14, 15, 16, 17, 18, 19]))] rfl rfl ?_
    (have hWf := w6 @f1 @f2 @f3 @f4 @g1 @g5; repeat' (first | refine zS ?_ | refine zI ?_ ?_ | refine zK (hp) ?_ | refine zK (hc) ?_ | exact zF0 | refine zD fun hb => ?_ | exact zC | refine zT ?_ | fail))
  ·have g5 := yB k5
   rw [if_neg (fun q => by have := q.1; rw [g5] at this; cases this), ex2]
   refine FI PM Tryz.func32 Tryz.ntmps32 [(15, 20, [], [], (lin [] [0, 1, 2, 3, 4, 5, 6, 7, 8, 9, 10, 11, 12, 13, 14, 15, 16, 17, 18, 19]))] rfl rfl ?_
   (have hWf := w5 @f1 @f2 @f3 @f4 @g5; repeat' (first | refine zS ?_ | refine zI ?_ ?_ | refine zK (hp) ?_ | refine zK (hc) ?_ | exact zF0 | refine zD fun hb => ?_ | exact zC | refine zT ?_ | fail))
section
variable {M : Md} {N : Nat} {pl : List (Nat × Plan)} {K : Exit -> St -> Prop} {σ : St} {c : Code}
theorem AC_foldMR (id : Nat) (h : match foldB σ id with
 | some (ob, _, σ') => ob /\ AC M N pl c K σ'
 | none => False) : AC M N pl c K σ := by
 split at h
 ·rename_i ob ds σ' hf
  exact AC_fold id hf h.1 h.2
 ·exact h.elim
end
def fdN (a : EI) (_ : List ET) : Prop := a.s.size <= 1048576 /\ Xg a.pats
theorem YR : Xg [] := ⟨by simp, by simp⟩
theorem ZM {a x y b : EI} {r l : List ET} (h : yV a x y = some b) : fdN b l := by
 unfold yV at h
 split at h
 ·split at h
  ·rename_i q
   injection h with h; subst h
   exact ⟨by simp only [ByteArray.size_append]; omega, YR⟩
  ·cases h
 ·split at h
  ·split at h
   ·injection h with h; subst h
    refine ⟨?_, YR⟩
    simp only
    split <;> decide
   ·split at h
    ·injection h with h; subst h
     exact ⟨by show noS.size <= 1048576; decide, YR⟩
    ·cases h
   ·cases h
  ·cases h
theorem fdN_fold : ∀ t : ET, All fdN t -> All fdN (xv t) := fun t => by
 induction t using Arb.ind with
 | h a l ih =>
  intro h
  have hk : ∀ x ∈ l.map xv, All fdN x := fun x hx => by
   obtain ⟨y, hy, rfl⟩ := List.mem_map.1 hx
   exact ih y hy (h.kid y hy)
  show All fdN (yU id id (.mk a l))
  rw [zN]
  refine wQ (P := All fdN) a (l.map xv) ?_ ?_ ?_
  ·exact All.mk h.root hk
  ·intro x y b _ _ hb
   exact All.mk (ZM (r := []) hb) (by simp)
  ·intro x hx _
   exact hk x hx
theorem mat_of {a : EI} {l : List ET} (v : EV a l) (hk : a.kind = 13) : ∃ x r, l = x :: r /\ a.pats.length = r.length := by
 cases v with
 | mat x r k e q1 q2 q3 => exact ⟨x, r, e, q1⟩
 | _ => exfalso; omega
theorem cntN_of : ∀ t : ET, okT t -> All fdN t -> All cntN t := fun t => by
 induction t using Arb.ind with
 | h a l ih =>
  intro h1 h2
  refine All.mk ⟨h2.root.2, fun hk => ?_⟩ fun x hx => ih x hx (h1.kid x hx) (h2.kid x hx)
  obtain ⟨x, r, rfl, q⟩ := mat_of h1.root.v hk
  rw [List.length_cons]; omega
theorem c_folded (a : EI) (l : List ET) (ok : okN a l) (hA : ∀ x ∈ l, okT x) (hF : ∀ x ∈ l, All fdN x) (hs : sizeL l <= 1000000) : FCon Tryz.prog 32 [exE (.mk a l)] (fun r _ => r = exE (x9 id id a l)) := by
 have hk := ok.v
 by_cases k10 : a.kind = 10
 ·cases hk with
  | prim x y k e h =>
   subst e
   obtain ⟨b, r1⟩ := x
   obtain ⟨c, r2⟩ := y
   exact QM a b c r1 r2 k10 (hF (.mk b r1) (by simp)).root.1 (hF (.mk c r2) (by simp)).root.1
  | _ => exfalso; omega
 ·by_cases k9 : a.kind = 9
  ·cases hk with
   | if_ x y z k e h =>
    subst e
    obtain ⟨b, r1⟩ := x
    obtain ⟨c, r2⟩ := y
    obtain ⟨d, r3⟩ := z
    exact folded_if a b c d r1 r2 r3 k9
   | _ => exfalso; omega
  ·by_cases k19 : a.kind = 19
   ·cases hk with
    | seq x y k e h =>
     subst e
     obtain ⟨b, r1⟩ := x
     obtain ⟨c, r2⟩ := y
     exact xaw a b c r1 r2 k19
    | _ => exfalso; omega
   ·by_cases k7 : a.kind = 7
    ·cases hk with
     | let_ x y k e h =>
      subst e
      obtain ⟨b, r1⟩ := x
      obtain ⟨c, r2⟩ := y
      refine xav a b c r1 r2 k7 (cntN_of _ (hA _ (by simp)) (hF _ (by simp))) ?_
      rw [sizeL_cons, sizeL_cons, sizeL_nil] at hs; omega
     | _ => exfalso; omega
    ·exact VL a l k10 k9 k19 k7
theorem exE_frz : ∀ t : ET, frz (exE t) = exE t := fun t => by
 obtain ⟨a, l⟩ := t
 rw [xM]; rfl
def exF (t : ET) : List D := [exE (xv t)]
theorem c_rewrite : ∀ t : ET, okT t -> All fdN t -> t.size <= 1000000 -> FCon Tryz.prog 30 [exO t, .fn 32 []] (fun r o => r = exE (xv t) /\ o = [.un, .un]) := fun t => by
 induction t using Arb.ind with
 | h a l ih =>
  intro ok hF hs
  rw [size_mk] at hs
  have hll := sizeL_len l
  have hsl : sizeL (l.map xv) <= 1000000 := by
   have : ∀ m : List ET, sizeL (m.map xv) <= sizeL m := fun m => by
    induction m with
    | nil => exact Nat.le_refl _
    | cons t m ih2 => rw [List.map_cons, sizeL_cons, sizeL_cons]; have := uF t; omega
   have := this l
   omega
  have hfd := c_folded a (l.map xv) ⟨ok.root.v.fold, ok.root.at0, ok.root.n0, ok.root.p0, ok.root.pm⟩ (fun x hx => by
   obtain ⟨y, hy, rfl⟩ := List.mem_map.1 hx; exact vV y (ok.kid y hy)) (fun x hx => by
   obtain ⟨y, hy, rfl⟩ := List.mem_map.1 hx; exact fdN_fold y (hF.kid y hy)) hsl
  obtain ⟨d, r, hd⟩ : ∃ d r, x9 id id a (l.map xv) = .mk d r := ⟨_, _, Arb.eta _⟩
  have hfe : xv (.mk a l) = .mk d r := by show yU id id _ = _; rw [zN]; exact hd
  rw [hd] at hfd
  rw [hfe]
  rw [XE]
  rw [xM, xM] at hfd
  rw [xM]
  refine FI PM Tryz.func30 Tryz.ntmps30 [(4, 8, [7], [(7, 0), (7, 1), (7, 2), (7, 3), (7, 4)], (lin [7] [0, 1, 2, 3, 4, 5, 6, 7]))] rfl rfl ?_
  (have hWf := f0; repeat' (first | refine zS ?_ | refine zI ?_ ?_ | exact zF0 | refine zD fun hb => ?_ | exact zC | refine zT ?_ | fail))
  refine Vi (fun n σ => ∃ k : Nat, k <= l.length /\ n = l.length - k /\ σ.t 0 = .bx 900000 0 /\ σ.t 1 = .fn 32 [] /\ σ.t 10 = .bs 5900000 1 l.length /\ σ.t 11 = .s (.int .i64 l.length) /\ σ.t 12 = .s (.int .i64 k) /\
   σ.b 900000 = some (.box [.s (.int .i64 a.kind), .s (.int .i64 a.at_), .s (.int .i64 a.n), .s (.string a.s), .bs 5900000 1 l.length, .bs 6900000 1 a.pats.length]) /\ σ.b 5900000 = some (.arr 72 1 (mixR exF exR l k)) /\ σ.b 6900000 = some (.arr 89 1 (a.pats.map MPat.own))) l.length ⟨0, by omega, by omega, ?_⟩ ?_
  ·simp only [go_sem, simprocAttr, Int.natCast_zero, YP]
  ·rintro n σ ⟨k, hk, rfl, h0, h1, h10, h11, h12, b9, b5, b6⟩ K' hK
   by_cases hlt : k < l.length
   ·obtain ⟨b, q, hbr⟩ : ∃ b q, l[k] = .mk b q := ⟨_, _, Arb.eta _⟩
    have hi := ih l[k] (List.getElem_mem hlt) (ok.kid _ (List.getElem_mem hlt)) (hF.kid _ (List.getElem_mem hlt)) (by have := size_mem (List.getElem_mem hlt); omega)
    have hx : exR l[k] = [.opt [.s (.int .i64 b.kind), .s (.int .i64 b.at_), .s (.int .i64 b.n), .s (.string b.s), .osl 72 1 (q.map exR), .osl 89 1 (b.pats.map MPat.own)]] := by show [exO _] = _; rw [hbr, XE]
    have hrow : (mixR exF exR l k)[k]? = some (exR l[k]) := by
     have h1 : k < (mixR exF exR l k).length := by rw [Yc]; exact hlt
     rw [List.getElem?_eq_getElem h1, <- yi (List.getElem?_eq_getElem h1), Yb hlt]
    obtain ⟨f, u, hfu⟩ : ∃ f u, xv l[k] = .mk f u := ⟨_, _, Arb.eta _⟩
    have hst := Z0 (f := exF) (g := exR) hlt
    have hef : exF l[k] = [.pt [.s (.int .i64 f.kind), .s (.int .i64 f.at_), .s (.int .i64 f.n), .s (.string f.s), .sl 1 (u.map exS), .sl 1 (f.pats.map MPat.enc)]] := by show [exE _] = _; rw [hfu, xM]
    rw [hfu, hbr, XE, xM] at hi
    have hml : (mixR exF exR l k).length = l.length := Yc
    refine W0 5900000 k 0 777 (e := 72) (k := 1) (rows := mixR exF exR l k) (row := exR l[k]) (d := .opt [.s (.int .i64 b.kind), .s (.int .i64 b.at_), .s (.int .i64 b.n), .s (.string b.s), .osl 72 1 (q.map exR), .osl 89 1 (b.pats.map MPat.own)]) b5 hrow (by rw [hx]; rfl) rfl (by decide) (by decide) ?_
    (have hWf := w9 @h0 @h1 @h10 @h11 @h12 @b9 @b5 @b6 @hml; repeat' (first | refine zS ?_ | refine zI ?_ ?_ | refine zX (hi) ?_ | ((with_reducible apply xc); refine xm (hi) ?_; rintro _ _ ⟨rfl, rfl⟩) | exact zF0 | refine zD fun hb => ?_ | exact zC | refine zT ?_ | fail))
    have hset : (mixR exF exR l k).set k (((mixR exF exR l k).getD k []).set 0 (.pt [.s (.int .i64 f.kind), .s (.int .i64 f.at_), .s (.int .i64 f.n), .s (.string f.s), .sl 1 (u.map exS), .sl 1 (f.pats.map MPat.enc)])) = mixR exF exR l (k + 1) := by
     rw [Yb hlt, hx, List.set_cons_zero, <- hef]; exact hst
    refine hK (l.length - (k + 1)) _ _ (by omega) (Wk_closeD 5900000 (e := 72) (k := 1) (i := k) (j := 0) (rows := mixR exF exR l k) (r := .pt [.s (.int .i64 f.kind), .s (.int .i64 f.at_), .s (.int .i64 f.n), .s (.string f.s), .sl 1 (u.map exS), .sl 1 (f.pats.map MPat.enc)]) ?_ rfl) ⟨k + 1, by omega, rfl, ?_⟩
    ·simp only [go_sem, simprocAttr]
    ·simp only [go_sem, simprocAttr, h0, h1, h10, h11, h12, b9, b5, b6, Int.natCast_succ, hset]
   ·obtain rfl : k = l.length := by omega
    rw [ZZ] at b5
    have hfz : xJ (l.map exF) = (l.map xv).map exS := by
     rw [yJ, List.map_map, List.map_map]
     refine List.map_congr_left fun x _ => ?_
     show frzL [exE (xv x)] = [exE (xv x)]
     simp only [frzL, exE_frz]
    have hfd : FCon Tryz.prog 32 [.pt [.s (.int .i64 a.kind), .s (.int .i64 a.at_), .s (.int .i64 a.n), .s (.string a.s), .sl 1 ((l.map xv).map exS), .sl 1 (a.pats.map MPat.enc)]] _ := hfd
    refine AC_foldMR 900000 ?_
    simp only [go_sem, simprocAttr, b9, b5, b6, foldB, List.length_map, List.take_length]
    refine ze 900000 (.box [.s (.int .i64 a.kind), .s (.int .i64 a.at_), .s (.int .i64 a.n), .s (.string a.s), .osl 72 1 (l.map exF), .osl 89 1 (a.pats.map MPat.own)]) (by simp only [go_sem, simprocAttr]) rfl ?_
    (have hWf := w7 @h0 @h1 @h10 @h11 @h12 @hfz @MPat.frzS; repeat' (first | refine zS ?_ | refine zI ?_ ?_ | refine zK (hfd) ?_ | exact zF0 | refine zD fun hb => ?_ | exact zC | refine zT ?_ | fail))
end Go.Proofs.YtgcdbmcoendcdaaGreat
namespace Go.Proofs.YtgcdbmcoendcdaaGreat
open Go.RowKit
theorem W3 {k : Int} (h : k < 1 \/ 19 < k) : arI k = -1 := by
 unfold arI
 split
 ·omega
 split
 ·omega
 split
 ·omega
 split
 ·omega
 rfl
theorem xY (k : Int) : FCon Tryz.prog 177 [.s (.int .i64 k)] (fun r _ => r = .s (.int .i64 (arI k))) := by
 by_cases hkd : k < 1 \/ 19 < k
 ·rw [W3 hkd]
  have e1 : (k == 1) = false := by simp only [beq_eq_false_iff_ne, ne_eq]; omega
  have e2 : (k == 2) = false := by simp only [beq_eq_false_iff_ne, ne_eq]; omega
  have e3 : (k == 3) = false := by simp only [beq_eq_false_iff_ne, ne_eq]; omega
  have e4 : (k == 4) = false := by simp only [beq_eq_false_iff_ne, ne_eq]; omega
  have e5 : (k == 5) = false := by simp only [beq_eq_false_iff_ne, ne_eq]; omega
  have e6 : (k == 6) = false := by simp only [beq_eq_false_iff_ne, ne_eq]; omega
  have e7 : (k == 7) = false := by simp only [beq_eq_false_iff_ne, ne_eq]; omega
  have e8 : (k == 8) = false := by simp only [beq_eq_false_iff_ne, ne_eq]; omega
  have e9 : (k == 9) = false := by simp only [beq_eq_false_iff_ne, ne_eq]; omega
  have e10 : (k == 10) = false := by simp only [beq_eq_false_iff_ne, ne_eq]; omega
  have e11 : (k == 11) = false := by simp only [beq_eq_false_iff_ne, ne_eq]; omega
  have e12 : (k == 12) = false := by simp only [beq_eq_false_iff_ne, ne_eq]; omega
  have e13 : (k == 13) = false := by simp only [beq_eq_false_iff_ne, ne_eq]; omega
  have e14 : (k == 14) = false := by simp only [beq_eq_false_iff_ne, ne_eq]; omega
  have e15 : (k == 15) = false := by simp only [beq_eq_false_iff_ne, ne_eq]; omega
  have e16 : (k == 16) = false := by simp only [beq_eq_false_iff_ne, ne_eq]; omega
  have e17 : (k == 17) = false := by simp only [beq_eq_false_iff_ne, ne_eq]; omega
  have e18 : (k == 18) = false := by simp only [beq_eq_false_iff_ne, ne_eq]; omega
  have e19 : (k == 19) = false := by simp only [beq_eq_false_iff_ne, ne_eq]; omega
  clear hkd
  refine FI PM Tryz.func177 Tryz.ntmps177 [] rfl rfl ?_
  (have hWf := w19 @e1 @e2 @e3 @e4 @e5 @e6 @e7 @e8 @e9 @e10 @e11 @e12 @e13 @e14 @e15 @e16 @e17 @e18 @e19; repeat' (first | refine zS ?_ | refine zI ?_ ?_ | exact zF0 | refine zD fun hb => ?_ | exact zC | refine zT ?_ | fail))
 ·rcases (show k = 1 \/ k = 2 \/ k = 3 \/ k = 4 \/ k = 5 \/ k = 6 \/ k = 7 \/ k = 8 \/ k = 9 \/ k = 10 \/ k = 11 \/ k = 12 \/ k = 13 \/ k = 14 \/ k = 15 \/ k = 16 \/ k = 17 \/ k = 18 \/ k = 19 by omega) with rfl | rfl | rfl | rfl | rfl | rfl | rfl | rfl | rfl | rfl | rfl | rfl | rfl | rfl | rfl | rfl | rfl | rfl | rfl
  all_goals
   clear hkd
   refine FI PM Tryz.func177 Tryz.ntmps177 [] rfl rfl ?_
   (have hWf := f0; repeat' (first | refine zS ?_ | refine zI ?_ ?_ | exact zF0 | refine zD fun hb => ?_ | exact zC | refine zT ?_ | fail))
   all_goals (try rfl)
theorem xU (k : Int) : FCon Tryz.prog 115 [.s (.int .i64 k)] (fun r _ => r = .s (.int .i64 (arI k))) := by
 by_cases hkd : k < 1 \/ 19 < k
 ·rw [W3 hkd]
  have e1 : (k == 1) = false := by simp only [beq_eq_false_iff_ne, ne_eq]; omega
  have e2 : (k == 2) = false := by simp only [beq_eq_false_iff_ne, ne_eq]; omega
  have e3 : (k == 3) = false := by simp only [beq_eq_false_iff_ne, ne_eq]; omega
  have e4 : (k == 4) = false := by simp only [beq_eq_false_iff_ne, ne_eq]; omega
  have e5 : (k == 5) = false := by simp only [beq_eq_false_iff_ne, ne_eq]; omega
  have e6 : (k == 6) = false := by simp only [beq_eq_false_iff_ne, ne_eq]; omega
  have e7 : (k == 7) = false := by simp only [beq_eq_false_iff_ne, ne_eq]; omega
  have e8 : (k == 8) = false := by simp only [beq_eq_false_iff_ne, ne_eq]; omega
  have e9 : (k == 9) = false := by simp only [beq_eq_false_iff_ne, ne_eq]; omega
  have e10 : (k == 10) = false := by simp only [beq_eq_false_iff_ne, ne_eq]; omega
  have e11 : (k == 11) = false := by simp only [beq_eq_false_iff_ne, ne_eq]; omega
  have e12 : (k == 12) = false := by simp only [beq_eq_false_iff_ne, ne_eq]; omega
  have e13 : (k == 13) = false := by simp only [beq_eq_false_iff_ne, ne_eq]; omega
  have e14 : (k == 14) = false := by simp only [beq_eq_false_iff_ne, ne_eq]; omega
  have e15 : (k == 15) = false := by simp only [beq_eq_false_iff_ne, ne_eq]; omega
  have e16 : (k == 16) = false := by simp only [beq_eq_false_iff_ne, ne_eq]; omega
  have e17 : (k == 17) = false := by simp only [beq_eq_false_iff_ne, ne_eq]; omega
  have e18 : (k == 18) = false := by simp only [beq_eq_false_iff_ne, ne_eq]; omega
  have e19 : (k == 19) = false := by simp only [beq_eq_false_iff_ne, ne_eq]; omega
  clear hkd
  refine FI PM Tryz.func115 Tryz.ntmps115 [] rfl rfl ?_
  (have hWf := w19 @e1 @e2 @e3 @e4 @e5 @e6 @e7 @e8 @e9 @e10 @e11 @e12 @e13 @e14 @e15 @e16 @e17 @e18 @e19; repeat' (first | refine zS ?_ | refine zI ?_ ?_ | exact zF0 | refine zD fun hb => ?_ | exact zC | refine zT ?_ | fail))
 ·rcases (show k = 1 \/ k = 2 \/ k = 3 \/ k = 4 \/ k = 5 \/ k = 6 \/ k = 7 \/ k = 8 \/ k = 9 \/ k = 10 \/ k = 11 \/ k = 12 \/ k = 13 \/ k = 14 \/ k = 15 \/ k = 16 \/ k = 17 \/ k = 18 \/ k = 19 by omega) with rfl | rfl | rfl | rfl | rfl | rfl | rfl | rfl | rfl | rfl | rfl | rfl | rfl | rfl | rfl | rfl | rfl | rfl | rfl
  all_goals
   clear hkd
   refine FI PM Tryz.func115 Tryz.ntmps115 [] rfl rfl ?_
   (have hWf := f0; repeat' (first | refine zS ?_ | refine zI ?_ ?_ | exact zF0 | refine zD fun hb => ?_ | exact zC | refine zT ?_ | fail))
   all_goals (try rfl)
def itB (params : Int) (x : TyI) : Bool := x.name.toList.isEmpty && decide (params <= x.v)
theorem VH {params : Int} {c : MCon} (h : conM c.name.data.toList = false) : yj params c = false := by unfold yj; rw [h]; rfl
theorem con_bad2 {params : Int} {c : MCon} (h : c.has = false) (h2 : 0 < c.arg.length) : yj params c = false := by
 unfold yj
 rw [h, decide_eq_false (by omega : ¬ c.arg.length = 0)]; simp
theorem con_bad3 {params : Int} {c : MCon} (h : c.has = true) (h2 : wZ c.arg = false) : yj params c = false := by
 unfold yj
 rw [h, h2]; simp
theorem con_ok1 {params : Int} {c : MCon} (h1 : conM c.name.data.toList = true) (h : c.has = false) (h2 : c.arg.length = 0) : yj params c = c.arg.all fun x => !itB params x := by
 unfold yj
 have : c.arg = [] := List.eq_nil_of_length_eq_zero h2
 rw [h1, h, this]; rfl
theorem con_ok2 {params : Int} {c : MCon} (h1 : conM c.name.data.toList = true) (h : c.has = true) (h2 : wZ c.arg = true) : yj params c = c.arg.all fun x => !itB params x := by
 unfold yj itB
 rw [h1, h, h2]; simp
theorem U5 {t : MType} (h : (yl t.name = false \/ t.params < 0 \/ 2 < t.params) \/ (t.cons.length : Int) < 1 \/ 8 < (t.cons.length : Int)) : zW t = false := by
 unfold zW
 rcases h with (h | h | h) | h | h
 ·rw [h]; rfl
 ·rw [decide_eq_false (by omega : ¬ 0 <= t.params)]; simp
 ·rw [decide_eq_false (by omega : ¬ t.params <= 2)]; simp
 ·rw [decide_eq_false (by omega : ¬ 1 <= t.cons.length)]; simp
 ·rw [decide_eq_false (by omega : ¬ t.cons.length <= 8)]; simp
theorem Qj {t : MType} (h : (yl t.name = true /\ 0 <= t.params /\ t.params <= 2) /\ 1 <= (t.cons.length : Int) /\ (t.cons.length : Int) <= 8) : zW t = t.cons.all (yj t.params) := by
 unfold zW
 obtain ⟨⟨h1, h2, h3⟩, h4, h5⟩ := h
 rw [h1, decide_eq_true h2, decide_eq_true h3, decide_eq_true (by omega : 1 <= t.cons.length), decide_eq_true (by omega : t.cons.length <= 8)]
 rfl
theorem itB_t {p : Int} {x : TyI} (h : x.name.toList.isEmpty = true /\ p <= x.v) : (!itB p x) = false := by unfold itB; rw [h.1, decide_eq_true h.2]; rfl
theorem itB_f {p : Int} {x : TyI} (h : x.name.toList.isEmpty = false \/ x.v < p) : (!itB p x) = true := by
 unfold itB
 rcases h with h | h
 ·rw [h]; rfl
 ·rw [decide_eq_false (by omega : ¬ p <= x.v)]; simp
theorem c_typeOk (t : MType) (ho : t.ok) (hs : t.sm) : FCon Tryz.prog 100 [.ag t.enc] (fun r _ => r = .s (.bool (zW t))) := by
 obtain ⟨o1, o2, o3⟩ := ho
 obtain ⟨s1, s2, s3⟩ := hs
 refine FI PM Tryz.func100 Tryz.ntmps100 [] rfl rfl ?_
 (have hWf := w1 @MType.enc_eq; repeat' (first | refine zS ?_ | refine zI ?_ ?_ | refine zK (wE t.name o1) ?_ | refine zK (yn t.params 0 2) ?_ | refine zK (yn t.cons.length 1 8) ?_ | exact zF0 | refine zD fun hb => ?_ | exact zC | refine zT ?_ | fail))
 ·rw [U5 hb]
 ·rw [Qj hb]
  refine xk (fun n σ => ∃ k : Nat, k <= t.cons.length /\ n = t.cons.length - k /\ σ.t 1 = .bx 1 0 /\ σ.b 1 = some (.box [.s (.string t.name), .s (.int .i64 t.params), .sl 3 (t.cons.map MCon.enc)]) /\ σ.t 25 = .sl 3 (t.cons.map MCon.enc) /\ σ.t 26 = .s (.int .i64 t.cons.length) /\ σ.t 27 = .s (.int .i64 k) /\ ∀ c ∈ t.cons.take k, yj t.params c = true) t.cons.length ⟨0, by omega, by omega, ?_⟩ ?_
  ·simp only [go_sem, simprocAttr, Int.natCast_zero]
   all_goals simp
  ·rintro n σ ⟨k, hk, rfl, h1, hb1, h25, h26, h27, hno⟩ K' hK
   by_cases hlt : k < t.cons.length
   ·have hx := xh MCon.enc t.cons k hlt
    have he := MCon.enc_eq t.cons[k]
    have hok := o3 _ (List.getElem_mem hlt)
    have hsm := s3 _ (List.getElem_mem hlt)
    have hal : t.cons[k].arg.length <= 1048576 := hsm.2.1
    cases hcn : conM t.cons[k].name.data.toList with
    | false =>
     (have hWf := w8 @h1 @hb1 @h25 @h26 @h27 @hx @he @hcn; repeat' (first | refine zS ?_ | refine zI ?_ ?_ | refine zK (wq t.cons[k].name hok.1) ?_ | ((with_reducible apply xc); refine zG (yQ t.cons[k].arg hok.2.2 (by omega)) ?_) | refine zU (yQ t.cons[k].arg hok.2.2 (by omega)) ?_ | exact zF0 | refine zD fun hb => ?_ | exact zC | refine zT ?_ | fail))
     all_goals exact sB (y9 hlt (VH hcn)).symm
    | true =>
     cases hh : t.cons[k].has with
     | false =>
      by_cases hz : t.cons[k].arg.length = 0
      ·have hz' : decide ((t.cons[k].arg.length : Int) > 0) = false := decide_eq_false (by omega)
       have hco := con_ok1 (params := t.params) hcn hh hz
       (have hWf := w10 @h1 @hb1 @h25 @h26 @h27 @hx @he @hcn @hh @hz'; repeat' (first | refine zS ?_ | refine zI ?_ ?_ | refine zK (wq t.cons[k].name hok.1) ?_ | ((with_reducible apply xc); refine zG (yQ t.cons[k].arg hok.2.2 (by omega)) ?_) | refine zU (yQ t.cons[k].arg hok.2.2 (by omega)) ?_ | exact zF0 | refine zD fun hb => ?_ | exact zC | refine zT ?_ | fail))
       refine xk (fun n σ => ∃ j : Nat, j <= t.cons[k].arg.length /\ n = t.cons[k].arg.length - j /\ σ.t 1 = .bx 1 0 /\ σ.b 1 = some (.box [.s (.string t.name), .s (.int .i64 t.params), .sl 3 (t.cons.map MCon.enc)]) /\ σ.t 25 = .sl 3 (t.cons.map MCon.enc) /\ σ.t 26 = .s (.int .i64 t.cons.length) /\ σ.t 27 = .s (.int .i64 k) /\
        σ.t 59 = .sl 3 (t.cons[k].arg.map TyI.enc) /\ σ.t 60 = .s (.int .i64 t.cons[k].arg.length) /\ σ.t 61 = .s (.int .i64 j) /\ ∀ x ∈ t.cons[k].arg.take j, (!itB t.params x) = true) t.cons[k].arg.length ⟨0, by omega, by omega, ?_⟩ ?_
       ·simp only [go_sem, simprocAttr, h1, hb1, h25, h26, h27, Int.natCast_zero]
        all_goals simp
       ·rintro n σ ⟨j, hj, rfl, g1, gb1, g25, g26, g27, g59, g60, g61, hno2⟩ K'' hK''
        by_cases hlj : j < t.cons[k].arg.length
        ·exact absurd hlj (by omega)
        ·obtain rfl : j = t.cons[k].arg.length := by omega
         (have hWf := w8 @g1 @gb1 @g25 @g26 @g27 @g59 @g60 @g61; repeat' (first | refine zS ?_ | refine zI ?_ ?_ | exact zF0 | refine zD fun hb => ?_ | exact zC | refine zT ?_ | fail))
         refine hK (t.cons.length - (k + 1)) _ (by omega) ⟨k + 1, by omega, rfl, ?_⟩
         simp only [go_sem, simprocAttr, g1, gb1, g25, g26, g27, Int.natCast_succ]
         exact xL hlt hno (by rw [hco]; exact x6 hno2)
      ·have hz' : decide ((t.cons[k].arg.length : Int) > 0) = true := decide_eq_true (by omega)
       (have hWf := w10 @h1 @hb1 @h25 @h26 @h27 @hx @he @hcn @hh @hz'; repeat' (first | refine zS ?_ | refine zI ?_ ?_ | refine zK (wq t.cons[k].name hok.1) ?_ | ((with_reducible apply xc); refine zG (yQ t.cons[k].arg hok.2.2 (by omega)) ?_) | refine zU (yQ t.cons[k].arg hok.2.2 (by omega)) ?_ | exact zF0 | refine zD fun hb => ?_ | exact zC | refine zT ?_ | fail))
       all_goals exact sB (y9 hlt (con_bad2 hh (by omega))).symm
     | true =>
      cases ht : wZ t.cons[k].arg with
      | false =>
       (have hWf := w10 @h1 @hb1 @h25 @h26 @h27 @hx @he @hcn @hh @ht; repeat' (first | refine zS ?_ | refine zI ?_ ?_ | refine zK (wq t.cons[k].name hok.1) ?_ | ((with_reducible apply xc); refine zG (yQ t.cons[k].arg hok.2.2 (by omega)) ?_) | refine zU (yQ t.cons[k].arg hok.2.2 (by omega)) ?_ | exact zF0 | refine zD fun hb => ?_ | exact zC | refine zT ?_ | fail))
       all_goals exact sB (y9 hlt (con_bad3 hh ht)).symm
      | true =>
       have hco := con_ok2 (params := t.params) hcn hh ht
       (have hWf := w10 @h1 @hb1 @h25 @h26 @h27 @hx @he @hcn @hh @ht; repeat' (first | refine zS ?_ | refine zI ?_ ?_ | refine zK (wq t.cons[k].name hok.1) ?_ | ((with_reducible apply xc); refine zG (yQ t.cons[k].arg hok.2.2 (by omega)) ?_) | refine zU (yQ t.cons[k].arg hok.2.2 (by omega)) ?_ | exact zF0 | refine zD fun hb => ?_ | exact zC | refine zT ?_ | fail))
       refine xk (fun n σ => ∃ j : Nat, j <= t.cons[k].arg.length /\ n = t.cons[k].arg.length - j /\ σ.t 1 = .bx 1 0 /\ σ.b 1 = some (.box [.s (.string t.name), .s (.int .i64 t.params), .sl 3 (t.cons.map MCon.enc)]) /\ σ.t 25 = .sl 3 (t.cons.map MCon.enc) /\ σ.t 26 = .s (.int .i64 t.cons.length) /\ σ.t 27 = .s (.int .i64 k) /\
        σ.t 59 = .sl 3 (t.cons[k].arg.map TyI.enc) /\ σ.t 60 = .s (.int .i64 t.cons[k].arg.length) /\ σ.t 61 = .s (.int .i64 j) /\ ∀ x ∈ t.cons[k].arg.take j, (!itB t.params x) = true) t.cons[k].arg.length ⟨0, by omega, by omega, ?_⟩ ?_
       ·simp only [go_sem, simprocAttr, h1, hb1, h25, h26, h27, Int.natCast_zero]
        all_goals simp
       ·rintro n σ ⟨j, hj, rfl, g1, gb1, g25, g26, g27, g59, g60, g61, hno2⟩ K'' hK''
        by_cases hlj : j < t.cons[k].arg.length
        ·have gx := xh TyI.enc t.cons[k].arg j hlj
         have ge := TyI.enc_eq t.cons[k].arg[j]
         (have hWf := w10 @g1 @gb1 @g25 @g26 @g27 @g59 @g60 @g61 @gx @ge; repeat' (first | refine zS ?_ | refine zI ?_ ?_ | exact zF0 | refine zD fun hb => ?_ | exact zC | refine zT ?_ | fail))
         ·exact sB (y9 hlt (by rw [hco]; exact y9 hlj (itB_t hb))).symm
         ·refine hK'' (t.cons[k].arg.length - (j + 1)) _ (by omega) ⟨j + 1, by omega, rfl, ?_⟩
          simp only [go_sem, simprocAttr, g1, gb1, g25, g26, g27, g59, g60, Int.natCast_succ]
          exact xL hlj hno2 (itB_f hb)
        ·obtain rfl : j = t.cons[k].arg.length := by omega
         (have hWf := w8 @g1 @gb1 @g25 @g26 @g27 @g59 @g60 @g61; repeat' (first | refine zS ?_ | refine zI ?_ ?_ | exact zF0 | refine zD fun hb => ?_ | exact zC | refine zT ?_ | fail))
         refine hK (t.cons.length - (k + 1)) _ (by omega) ⟨k + 1, by omega, rfl, ?_⟩
         simp only [go_sem, simprocAttr, g1, gb1, g25, g26, g27, Int.natCast_succ]
         exact xL hlt hno (by rw [hco]; exact x6 hno2)
   ·obtain rfl : k = t.cons.length := by omega
    (have hWf := w5 @h1 @hb1 @h25 @h26 @h27; repeat' (first | refine zS ?_ | refine zI ?_ ?_ | exact zF0 | refine zD fun hb => ?_ | exact zC | refine zT ?_ | fail))
    rw [x6 hno]
theorem c_l04Con (c : MCon) (p : Int) (ho : c.ok) (hs : c.sm) : FCon Tryz.prog 48 [.ag c.enc, .s (.int .i64 p)] (fun r _ => r = .s (.bool (yj p c))) := by
 obtain ⟨o1, -, o3⟩ := ho
 have hl := hs.2.1
 cases hcn : conM c.name.data.toList with
 | false =>
  rw [VH hcn]
  refine FI PM Tryz.func48 Tryz.ntmps48 [] rfl rfl ?_
  (have hWf := w2 @MCon.enc_eq @hcn; repeat' (first | refine zS ?_ | refine zI ?_ ?_ | refine zK (yy c.name o1) ?_ | exact zF0 | refine zD fun hb => ?_ | exact zC | refine zT ?_ | fail))
 | true =>
  cases hh : c.has with
  | false =>
   have e : yj p c = decide (c.arg.length = 0) := by unfold yj; rw [hcn, hh]; simp
   rw [e]
   refine FI PM Tryz.func48 Tryz.ntmps48 [] rfl rfl ?_
   (have hWf := w3 @MCon.enc_eq @hcn @hh; repeat' (first | refine zS ?_ | refine zI ?_ ?_ | refine zK (yy c.name o1) ?_ | exact zF0 | refine zD fun hb => ?_ | exact zC | refine zT ?_ | fail))
   all_goals exact sB (by rw [Bool.eq_iff_iff]; simp)
  | true =>
   refine FI PM Tryz.func48 Tryz.ntmps48 [] rfl rfl ?_
   (have hWf := w3 @MCon.enc_eq @hcn @hh; repeat' (first | refine zS ?_ | refine zI ?_ ?_ | refine zK (yy c.name o1) ?_ | exact zF0 | refine zD fun hb => ?_ | exact zC | refine zT ?_ | fail))
   refine xk (fun n σ => ∃ j : Nat, j <= c.arg.length /\ n = c.arg.length - j /\ σ.t 1 = .s (.int .i64 p) /\ σ.t 2 = .bx 2 0 /\ σ.b 2 = some (.box [.s (.string c.name), .s (.bool true), .sl 3 (c.arg.map TyI.enc)]) /\
    σ.t 21 = .sl 3 (c.arg.map TyI.enc) /\ σ.t 22 = .s (.int .i64 c.arg.length) /\ σ.t 23 = .s (.int .i64 j) /\ ∀ x ∈ c.arg.take j, (!itB p x) = true) c.arg.length ⟨0, by omega, by omega, ?_⟩ ?_
   ·simp only [go_sem, simprocAttr, Int.natCast_zero, hh]
    all_goals simp
   ·rintro n σ ⟨j, hj, rfl, g1, g2, gb2, g21, g22, g23, hno⟩ K' hK
    by_cases hlj : j < c.arg.length
    ·have gx := xh TyI.enc c.arg j hlj
     have ge := TyI.enc_eq c.arg[j]
     (have hWf := w8 @g1 @g2 @gb2 @g21 @g22 @g23 @gx @ge; repeat' (first | refine zS ?_ | refine zI ?_ ?_ | exact zF0 | refine zD fun hb => ?_ | exact zC | refine zT ?_ | fail))
     ·refine sB ?_
      have := y9 (p := fun x : TyI => !itB p x) hlj (itB_t hb)
      unfold itB at this
      unfold yj
      rw [this, hh]; simp
     ·refine hK (c.arg.length - (j + 1)) _ (by omega) ⟨j + 1, by omega, rfl, ?_⟩
      simp only [go_sem, simprocAttr, g1, g2, gb2, g21, g22, Int.natCast_succ]
      exact xL hlj hno (itB_f hb)
    ·obtain rfl : j = c.arg.length := by omega
     (have hWf := w6 @g1 @g2 @gb2 @g21 @g22 @g23; repeat' (first | refine zS ?_ | refine zI ?_ ?_ | ((with_reducible apply xc); refine zG (WD c.arg o3 (by omega)) ?_) | refine zU (WD c.arg o3 (by omega)) ?_ | exact zF0 | refine zD fun hb => ?_ | exact zC | refine zT ?_ | fail))
     refine sB ?_
     have := x6 (p := fun x : TyI => !itB p x) hno
     unfold itB at this
     unfold yj
     rw [this, hh, hcn]; simp
end Go.Proofs.YtgcdbmcoendcdaaGreat
