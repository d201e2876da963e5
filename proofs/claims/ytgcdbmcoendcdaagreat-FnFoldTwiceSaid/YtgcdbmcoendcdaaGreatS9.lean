/- Parts of the proof, laid together: HParH, TxtWalks, QuoWalks, UnqWalks, HLexD, HLexE, HLexF, HParR, HParZ, ParK, ParW, DrProg, DrRaw, NilW. -/
import Derived.BigQuiet
import Derived.Deep.LoopGhost
import Derived.Deep.QuietTactic
import Derived.Deep.RegionLaw
import Derived.Deep.RegionWith
import Derived.Deep.Slices
import Derived.Laws.Cover3
import Derived.Laws.EntriesVeiled
import Derived.Laws.IdiomStrings
import Derived.Laws.StructEq
import Derived.Lib.AppendStr
import Derived.Lib.Hide
import Derived.Lib.SlBytesConst
import Derived.ProofKit
import Derived.Test.YtgcdbmcoendcdaaGreatProg
import Derived.WalkKit
import Derived.Test.YtgcdbmcoendcdaaGreatS8
set_option maxRecDepth 100000
set_option maxHeartbeats 8000000
set_option linter.unusedVariables false
set_option linter.unusedSimpArgs false
namespace Go.Proofs.YtgcdbmcoendcdaaGreat
attribute [local go_sem] List.map_append
open Go.RowKit
def noV (s : PS) : PS := ⟨s.i, s.code, s.at_, [], s.seen⟩
theorem head_none (T : List MTok) (e : Int) (hT : T.length <= 10000) (s0 : PS) (h1 : isS T e (noV s0) (⟨#[40]⟩ : ByteArray) = false) (h2 : ¬ (tokS T e (noV s0)).kind = 5) : FCon Tryz.prog 199 [.opt (rdD T e s0)] (fun r o => r = .ag [.s (.string (xW T e s0).1.name), .s (.int .i64 (xW T e s0).1.params), .nil] /\ o = [.opt (rdD T e (xW T e s0).2)]) := by
 have his := xw T e (noV s0) (⟨#[40]⟩ : ByteArray)
 have ht := xj T e (noV s0)
 have hw := yq T e (noV s0) (by omega) 3 (by decide)
 rw [h1] at his
 rw [show xW T e s0 = (⟨(xp T e (noV s0) 3).1, 0, []⟩, (xp T e (noV s0) 3).2) by
  unfold xW
  show (if isS T e (noV s0) _ = true then _ else if (tokS T e (noV s0)).kind = 5 then _ else _) = _
  rw [h1, if_neg (by decide), if_neg h2]; rfl]
 have f5 := kF h2
 generalize tokS T e (noV s0) = t at *
 have hv1 := yK (T := T) (e := e) (noV s0) 3
 rcases hq : xp T e (noV s0) 3 with ⟨nm, s1⟩
 rw [hq] at hw hv1
 simp only at hw hv1 ⊢
 have hv1 : s1.vars = [] := hv1
 unfold noV at *
 rw [xg] at his ht
 rw [MTok.enc_eq] at ht
 rw [xb, xb, hv1] at hw
 rw [xb, xb, hv1]
 refine FI PM Tryz.func199 Tryz.ntmps199 [(16, 7, [6], [(6, 0), (6, 1), (6, 2), (6, 3), (6, 4)], (lin [6] [0, 1, 2, 3, 4, 5, 6]))] rfl rfl ?_
 (refine xA ?_; simp only [go_sem, simprocAttr]; (have hWf := f0; repeat' (first | refine zY ?_ | refine zI ?_ ?_ | exact zF1 | refine zD fun hb => ?_ | exact zC | refine zT ?_ | fail)))
 (refine xA ?_; simp only [go_sem, simprocAttr]; (have hWf := f0; repeat' (first | refine zY ?_ | refine zI ?_ ?_ | exact zF1 | refine zD fun hb => ?_ | exact zC | refine zT ?_ | fail)))
 refine zc 900000 5 777 (row := [.sl 4 (T.map MTok.enc), .s (.int .i64 s0.i), .s (.int .i64 e), .s (.int .i64 s0.code), .s (.int .i64 s0.at_), .nil, .bs 7900000 1 s0.seen.length]) 3 1 (by simp only [go_sem, simprocAttr]) rfl (by decide) rfl (ze 777 (.arr 3 1 []) (by simp only [go_sem, simprocAttr]) rfl ?_)
 (have hWf := w3 @xe @xd @f5; repeat' (first | refine zS ?_ | refine zI ?_ ?_ | refine zK (his) ?_ | refine zK (ht) ?_ | refine zX (hw) ?_ | ((with_reducible apply xc); refine xm (hw) ?_; rintro _ _ ⟨rfl, rfl⟩) | exact zF0 | refine zD fun hb => ?_ | exact zC | refine zT ?_ | fail))
 all_goals rfl
theorem head_one (T : List MTok) (e : Int) (hT : T.length <= 10000) (s0 : PS) (h1 : isS T e (noV s0) (⟨#[40]⟩ : ByteArray) = false) (h2 : (tokS T e (noV s0)).kind = 5) : FCon Tryz.prog 199 [.opt (rdD T e s0)] (fun r o => r = .ag [.s (.string (xW T e s0).1.name), .s (.int .i64 (xW T e s0).1.params), .nil] /\ o = [.opt (rdD T e (xW T e s0).2)]) := by
 have his := xw T e (noV s0) (⟨#[40]⟩ : ByteArray)
 have ht := xj T e (noV s0)
 have hlt := (xK (by rw [h2]; decide)).2
 rw [h1] at his
 rw [show xW T e s0 = (⟨(xp T e ⟨s0.i + 1, s0.code, s0.at_, [(tokS T e (noV s0)).n], s0.seen⟩ 3).1, 1, []⟩, (xp T e ⟨s0.i + 1, s0.code, s0.at_, [(tokS T e (noV s0)).n], s0.seen⟩ 3).2) by
  unfold xW
  show (if isS T e (noV s0) _ = true then _ else if (tokS T e (noV s0)).kind = 5 then _ else _) = _
  rw [h1, if_neg (by decide), if_pos h2]; rfl]
 have f5 := kT h2
 generalize tokS T e (noV s0) = t at *
 have hw := yq T e ⟨s0.i + 1, s0.code, s0.at_, [t.n], s0.seen⟩ (by omega) 3 (by decide)
 have hlt : s0.i < T.length := hlt
 have hv1 := yK (T := T) (e := e) ⟨s0.i + 1, s0.code, s0.at_, [t.n], s0.seen⟩ 3
 rcases hq : xp T e ⟨s0.i + 1, s0.code, s0.at_, [t.n], s0.seen⟩ 3 with ⟨nm, s1⟩
 rw [hq] at hw hv1
 simp only at hw hv1 ⊢
 unfold noV at *
 rw [xg] at his ht
 rw [MTok.enc_eq] at ht
 rw [xb, xb, hv1] at hw
 rw [xb, xb, hv1]
 refine FI PM Tryz.func199 Tryz.ntmps199 [(16, 7, [6], [(6, 0), (6, 1), (6, 2), (6, 3), (6, 4)], (lin [6] [0, 1, 2, 3, 4, 5, 6]))] rfl rfl ?_
 (refine xA ?_; simp only [go_sem, simprocAttr]; (have hWf := f0; repeat' (first | refine zY ?_ | refine zI ?_ ?_ | exact zF1 | refine zD fun hb => ?_ | exact zC | refine zT ?_ | fail)))
 (refine xA ?_; simp only [go_sem, simprocAttr]; (have hWf := f0; repeat' (first | refine zY ?_ | refine zI ?_ ?_ | exact zF1 | refine zD fun hb => ?_ | exact zC | refine zT ?_ | fail)))
 refine zc 900000 5 777 (row := [.sl 4 (T.map MTok.enc), .s (.int .i64 s0.i), .s (.int .i64 e), .s (.int .i64 s0.code), .s (.int .i64 s0.at_), .nil, .bs 7900000 1 s0.seen.length]) 3 1 (by simp only [go_sem, simprocAttr]) rfl (by decide) rfl (ze 777 (.arr 3 1 []) (by simp only [go_sem, simprocAttr]) rfl ?_)
 iterate 5 (refine xA ?_; simp only [go_sem, simprocAttr, xe, xd, f5]; (have hWf := w3 @xe @xd @f5; repeat' (first | refine zY ?_ | refine zI ?_ ?_ | refine zK (his) ?_ | refine zK (ht) ?_ | exact zF1 | refine zD fun hb => ?_ | exact zC | refine zT ?_ | fail)))
 refine ze 57 (.arr 3 1 [[.s (.int .i64 t.n)]]) (by simp only [go_sem, simprocAttr]) rfl ?_
 (have hWf := w3 @xe @xd @f5; repeat' (first | refine zS ?_ | refine zI ?_ ?_ | refine zK (his) ?_ | refine zK (ht) ?_ | refine zX (hw) ?_ | ((with_reducible apply xc); refine xm (hw) ?_; rintro _ _ ⟨rfl, rfl⟩) | exact zF0 | refine zD fun hb => ?_ | exact zC | refine zT ?_ | fail))
 all_goals rfl
theorem head_two (T : List MTok) (e : Int) (hT : T.length <= 10000) (s0 : PS) (h1 : isS T e (noV s0) (⟨#[40]⟩ : ByteArray) = true) : FCon Tryz.prog 199 [.opt (rdD T e s0)] (fun r o => r = .ag [.s (.string (xW T e s0).1.name), .s (.int .i64 (xW T e s0).1.params), .nil] /\ o = [.opt (rdD T e (xW T e s0).2)]) := by
 have his := xw T e (noV s0) (⟨#[40]⟩ : ByteArray)
 have hlt := (xt h1 (xa (l := [40]) (by simp))).2
 rw [h1] at his
 obtain ⟨s1, e1⟩ : ∃ q, q = advS (noV s0) := ⟨_, rfl⟩
 obtain ⟨a, ea⟩ : ∃ q, q = tokS T e s1 := ⟨_, rfl⟩
 obtain ⟨s2, e2⟩ : ∃ q, q = (xp T e s1 5).2 := ⟨_, rfl⟩
 obtain ⟨s3, e3⟩ : ∃ q, q = xf T e s2 (⟨#[44]⟩ : ByteArray) := ⟨_, rfl⟩
 obtain ⟨b, eb⟩ : ∃ q, q = tokS T e s3 := ⟨_, rfl⟩
 obtain ⟨s4, e4⟩ : ∃ q, q = if b.kind = 5 /\ b.n = a.n then xx T e s3 7 else s3 := ⟨_, rfl⟩
 obtain ⟨s5, e5⟩ : ∃ q, q = (xp T e s4 5).2 := ⟨_, rfl⟩
 obtain ⟨s6, e6⟩ : ∃ q, q = xf T e s5 (⟨#[41]⟩ : ByteArray) := ⟨_, rfl⟩
 obtain ⟨s7, e7⟩ : ∃ q : PS, q = ⟨s6.i, s6.code, s6.at_, [a.n, b.n], s6.seen⟩ := ⟨_, rfl⟩
 have hH : xW T e s0 = (⟨(xp T e s7 3).1, 2, []⟩, (xp T e s7 3).2) := by
  subst e7 e6 e5 e4 eb e3 e2 ea e1
  unfold xW
  show (if isS T e (noV s0) _ = true then _ else if (tokS T e (noV s0)).kind = 5 then _ else _) = _
  rw [if_pos h1]; rfl
 rw [hH]
 have ht1 := xj T e s1
 have hw1 := yq T e s1 (by omega) 5 (by decide)
 have htk := xy T e s2 (by omega) (⟨#[44]⟩ : ByteArray) (xa (l := [44]) (by simp))
 have ht3 := xj T e s3
 have hf := yz T e s3 7
 have hw4 := yq T e s4 (by omega) 5 (by decide)
 have htk5 := xy T e s5 (by omega) (⟨#[41]⟩ : ByteArray) (xa (l := [41]) (by simp))
 have hw7 := yq T e s7 (by omega) 3 (by decide)
 have b0 : (noV s0).i < T.length := hlt
 have v2 : s2.vars = [] := by rw [e2, yK, e1]; rfl
 have v3 : s3.vars = [] := by rw [e3, y8]; exact v2
 have v4 : s4.vars = [] := by rw [e4]; split; rw [uE]; exact v3; exact v3
 have v5 : s5.vars = [] := by rw [e5, yK]; exact v4
 have v6 : s6.vars = [] := by rw [e6, y8]; exact v5
 have v1 : s1.vars = [] := by rw [e1]; rfl
 have v7 := yK (T := T) (e := e) s7 3
 rw [<- ea] at ht1
 rw [<- e2] at hw1
 rw [<- e3] at htk
 rw [<- eb] at ht3
 rw [<- e5] at hw4
 rw [<- e6] at htk5
 have v7 : (xp T e s7 3).2.vars = [a.n, b.n] := by rw [v7, e7]
 rcases hq : xp T e s7 3 with ⟨nm, s8⟩
 rw [hq] at hw7 v7
 simp only at hw7 v7 ⊢
 generalize (xp T e s1 5).1 = x1 at *
 generalize (xp T e s4 5).1 = x4 at *
 clear hH e2 e3 e5 e6 hq ea eb
 rw [MTok.enc_eq] at ht1 ht3
 unfold noV at *
 rw [xg] at his ht1 ht3
 have i1 : s1.i = s0.i + 1 := by rw [e1]; rfl
 have c1 : s1.code = s0.code := by rw [e1]; rfl
 have a1 : s1.at_ = s0.at_ := by rw [e1]; rfl
 have n1 : s1.seen = s0.seen := by rw [e1]; rfl
 clear e1
 have i7 : s7.i = s6.i := by rw [e7]
 have c7 : s7.code = s6.code := by rw [e7]
 have a7 : s7.at_ = s6.at_ := by rw [e7]
 have n7 : s7.seen = s6.seen := by rw [e7]
 have w7 : s7.vars = [a.n, b.n] := by rw [e7]
 clear e7
 by_cases hc : b.kind = 5 /\ b.n = a.n
 ·rw [if_pos hc] at e4
  rw [<- e4] at hf
  clear e4
  have k5 := kT hc.1
  have kn := kT hc.2
  simp only [xb, v1, v2, v3, v4, v5, v6, v7, i1, c1, a1, n1, i7, c7, a7, n7, w7] at *
  refine FI PM Tryz.func199 Tryz.ntmps199 [(16, 7, [6], [(6, 0), (6, 1), (6, 2), (6, 3), (6, 4)], (lin [6] [0, 1, 2, 3, 4, 5, 6]))] rfl rfl ?_
  (refine xA ?_; simp only [go_sem, simprocAttr]; (have hWf := f0; repeat' (first | refine zY ?_ | refine zI ?_ ?_ | exact zF1 | refine zD fun hb => ?_ | exact zC | refine zT ?_ | fail)))
  (refine xA ?_; simp only [go_sem, simprocAttr]; (have hWf := f0; repeat' (first | refine zY ?_ | refine zI ?_ ?_ | exact zF1 | refine zD fun hb => ?_ | exact zC | refine zT ?_ | fail)))
  refine zc 900000 5 777 (row := [.sl 4 (T.map MTok.enc), .s (.int .i64 s0.i), .s (.int .i64 e), .s (.int .i64 s0.code), .s (.int .i64 s0.at_), .nil, .bs 7900000 1 s0.seen.length]) 3 1 (by simp only [go_sem, simprocAttr]) rfl (by decide) rfl (ze 777 (.arr 3 1 []) (by simp only [go_sem, simprocAttr]) rfl ?_)
  iterate 13 (refine xA ?_; simp only [go_sem, simprocAttr, xe, xd, k5, kn]; (have hWf := w4 @xe @xd @k5 @kn; repeat' (first | refine zY ?_ | refine zI ?_ ?_ | refine zK (his) ?_ | refine zK (ht1) ?_ | refine zH hw1 ?_ | refine zH htk ?_ | refine zK (ht3) ?_ | refine zH hf ?_ | refine zH hw4 ?_ | refine zH htk5 ?_ | exact zF1 | refine zD fun hb => ?_ | exact zC | refine zT ?_ | fail)))
  refine ze 46 (.arr 3 1 [[.s (.int .i64 a.n)], [.s (.int .i64 b.n)]]) (by simp only [go_sem, simprocAttr]) rfl ?_
  (have hWf := w2 @xe @xd; repeat' (first | refine zS ?_ | refine zI ?_ ?_ | refine zX (hw7) ?_ | ((with_reducible apply xc); refine xm (hw7) ?_; rintro _ _ ⟨rfl, rfl⟩) | exact zF0 | refine zD fun hb => ?_ | exact zC | refine zT ?_ | fail))
  all_goals rfl
 ·rw [if_neg hc] at e4
  subst e4
  clear hf
  by_cases z5 : b.kind = 5
  ·have k5 := kT z5
   have kn := kF (fun q => hc ⟨z5, q⟩)
   simp only [xb, v1, v2, v3, v5, v6, v7, i1, c1, a1, n1, i7, c7, a7, n7, w7] at *
   refine FI PM Tryz.func199 Tryz.ntmps199 [(16, 7, [6], [(6, 0), (6, 1), (6, 2), (6, 3), (6, 4)], (lin [6] [0, 1, 2, 3, 4, 5, 6]))] rfl rfl ?_
   (refine xA ?_; simp only [go_sem, simprocAttr]; (have hWf := f0; repeat' (first | refine zY ?_ | refine zI ?_ ?_ | exact zF1 | refine zD fun hb => ?_ | exact zC | refine zT ?_ | fail)))
   (refine xA ?_; simp only [go_sem, simprocAttr]; (have hWf := f0; repeat' (first | refine zY ?_ | refine zI ?_ ?_ | exact zF1 | refine zD fun hb => ?_ | exact zC | refine zT ?_ | fail)))
   refine zc 900000 5 777 (row := [.sl 4 (T.map MTok.enc), .s (.int .i64 s0.i), .s (.int .i64 e), .s (.int .i64 s0.code), .s (.int .i64 s0.at_), .nil, .bs 7900000 1 s0.seen.length]) 3 1 (by simp only [go_sem, simprocAttr]) rfl (by decide) rfl (ze 777 (.arr 3 1 []) (by simp only [go_sem, simprocAttr]) rfl ?_)
   iterate 13 (refine xA ?_; simp only [go_sem, simprocAttr, xe, xd, k5, kn]; (have hWf := w4 @xe @xd @k5 @kn; repeat' (first | refine zY ?_ | refine zI ?_ ?_ | refine zK (his) ?_ | refine zK (ht1) ?_ | refine zH hw1 ?_ | refine zH htk ?_ | refine zK (ht3) ?_ | refine zH hw4 ?_ | refine zH htk5 ?_ | exact zF1 | refine zD fun hb => ?_ | exact zC | refine zT ?_ | fail)))
   refine ze 46 (.arr 3 1 [[.s (.int .i64 a.n)], [.s (.int .i64 b.n)]]) (by simp only [go_sem, simprocAttr]) rfl ?_
   (have hWf := w2 @xe @xd; repeat' (first | refine zS ?_ | refine zI ?_ ?_ | refine zX (hw7) ?_ | ((with_reducible apply xc); refine xm (hw7) ?_; rintro _ _ ⟨rfl, rfl⟩) | exact zF0 | refine zD fun hb => ?_ | exact zC | refine zT ?_ | fail))
   all_goals rfl
  ·have k5 := kF z5
   simp only [xb, v1, v2, v3, v5, v6, v7, i1, c1, a1, n1, i7, c7, a7, n7, w7] at *
   refine FI PM Tryz.func199 Tryz.ntmps199 [(16, 7, [6], [(6, 0), (6, 1), (6, 2), (6, 3), (6, 4)], (lin [6] [0, 1, 2, 3, 4, 5, 6]))] rfl rfl ?_
   (refine xA ?_; simp only [go_sem, simprocAttr]; (have hWf := f0; repeat' (first | refine zY ?_ | refine zI ?_ ?_ | exact zF1 | refine zD fun hb => ?_ | exact zC | refine zT ?_ | fail)))
   (refine xA ?_; simp only [go_sem, simprocAttr]; (have hWf := f0; repeat' (first | refine zY ?_ | refine zI ?_ ?_ | exact zF1 | refine zD fun hb => ?_ | exact zC | refine zT ?_ | fail)))
   refine zc 900000 5 777 (row := [.sl 4 (T.map MTok.enc), .s (.int .i64 s0.i), .s (.int .i64 e), .s (.int .i64 s0.code), .s (.int .i64 s0.at_), .nil, .bs 7900000 1 s0.seen.length]) 3 1 (by simp only [go_sem, simprocAttr]) rfl (by decide) rfl (ze 777 (.arr 3 1 []) (by simp only [go_sem, simprocAttr]) rfl ?_)
   iterate 13 (refine xA ?_; simp only [go_sem, simprocAttr, xe, xd, k5]; (have hWf := w3 @xe @xd @k5; repeat' (first | refine zY ?_ | refine zI ?_ ?_ | refine zK (his) ?_ | refine zK (ht1) ?_ | refine zH hw1 ?_ | refine zH htk ?_ | refine zK (ht3) ?_ | refine zH hw4 ?_ | refine zH htk5 ?_ | exact zF1 | refine zD fun hb => ?_ | exact zC | refine zT ?_ | fail)))
   refine ze 46 (.arr 3 1 [[.s (.int .i64 a.n)], [.s (.int .i64 b.n)]]) (by simp only [go_sem, simprocAttr]) rfl ?_
   (have hWf := w2 @xe @xd; repeat' (first | refine zS ?_ | refine zI ?_ ?_ | refine zX (hw7) ?_ | ((with_reducible apply xc); refine xm (hw7) ?_; rintro _ _ ⟨rfl, rfl⟩) | exact zF0 | refine zD fun hb => ?_ | exact zC | refine zT ?_ | fail))
   all_goals rfl
theorem c_l03Head (T : List MTok) (e : Int) (hT : T.length <= 10000) (s : PS) : FCon Tryz.prog 199 [.opt (rdD T e s)] (fun r o => r = .ag [.s (.string (xW T e s).1.name), .s (.int .i64 (xW T e s).1.params), .nil] /\ o = [.opt (rdD T e (xW T e s).2)]) := by
 cases h : isS T e (noV s) (⟨#[40]⟩ : ByteArray) with
 | true => exact head_two T e hT s h
 | false =>
  by_cases h5 : (tokS T e (noV s)).kind = 5
  ·exact head_one T e hT s h h5
  ·exact head_none T e hT s h h5
theorem xak {T : List MTok} {e : Int} {n : Nat} {l : List MCon} {s : PS} (h : ¬ s.code = 0) : yd T e (n + 1) l s = (l, s) := by unfold yd; rw [if_neg h]
theorem cons1_go {T : List MTok} {e : Int} {n : Nat} {l : List MCon} {s s1 : PS} {c : MCon} (h : s.code = 0) (hc : conS T e s = (c, s1)) : yd T e (n + 1) l s = if isS T e s1 (⟨#[124]⟩ : ByteArray) = true then yd T e n (l ++ [c]) (advS s1) else (l ++ [c], s1) := by
 conv => lhs; unfold yd
 rw [if_pos h, hc]
theorem c_l03Type (T : List MTok) (e : Int) (hT : T.length <= 10000) (s : PS) (hs : s.i <= T.length) : FCon Tryz.prog 129 [.opt (rdD T e s)] (fun r o => r = .ag (zh T e s).1.own /\ o = [.opt (rdD T e (zh T e s).2)]) := by
 have hh := c_l03Head T e hT s
 have bh := Ua (T := T) (e := e) s
 unfold zh
 rcases hq : xW T e s with ⟨t, s1⟩
 rw [hq] at hh bh
 simp only at hh bh ⊢
 have ht := xy T e s1 (by omega) (⟨#[61]⟩ : ByteArray) (xa (l := [61]) (by simp))
 have bt := wy (T := T) (e := e) s1 (xa (l := [61]) (by simp))
 have vt := y8 (T := T) (e := e) s1 (⟨#[61]⟩ : ByteArray)
 have hi1 := bh.1.2 hs
 have hi2 := bt.2 hi1
 generalize xf T e s1 (⟨#[61]⟩ : ByteArray) = s2 at *
 obtain ⟨tn, tp, tc⟩ := t
 simp only at hh ⊢
 obtain ⟨F, hF⟩ : ∃ F, F = yd T e (T.length + 1) [] s2 := ⟨_, rfl⟩
 rw [<- hF]
 obtain ⟨L, s9⟩ := F
 simp only
 have hv2 : s2.vars.length <= 1000 := by rw [vt]; have := bh.2; omega
 have hend := xy T e s9 (by omega) (⟨#[59]⟩ : ByteArray) (xa (l := [59]) (by simp))
 rw [xb, xb] at hh ht hend
 rw [xb, xb]
 generalize xf T e s9 (⟨#[59]⟩ : ByteArray) = s10 at *
 show FCon _ _ _ (fun r o => r = .ag [.s (.string tn), .s (.int .i64 tp), .osl 68 3 (L.map MCon.own)] /\ o = _)
 refine FI PM Tryz.func129 Tryz.ntmps129 [] rfl rfl ?_
 (have hWf := w2 @xe @xd; repeat' (first | refine zS ?_ | refine zI ?_ ?_ | refine zH hh ?_ | refine zH ht ?_ | exact zF0 | refine zD fun hb => ?_ | exact zC | refine zT ?_ | fail))
 refine Wi (zc 3 2 888 (row := [.s (.string tn), .s (.int .i64 tp), .nil]) 68 3 (by simp only [go_sem, simprocAttr]) rfl (by decide) rfl (xA ?_))
 simp only [go_sem, simprocAttr]
 refine xk (fun n σ => ∃ (j : Nat) (l' : List MCon) (s' : PS), n = T.length - s'.i /\ T.length - s'.i < j /\ s'.i <= T.length /\ l'.length <= s'.i /\ s'.vars.length <= 1000 /\ yd T e j l' s' = (L, s9) /\ σ.t 0 = .bx 900000 0 /\ σ.b 900000 = some (.box [.sl 4 (T.map MTok.enc), .s (.int .i64 s'.i), .s (.int .i64 e), .s (.int .i64 s'.code), .s (.int .i64 s'.at_), .sl 1 (s'.vars.map iE), .bs 7900000 1 s'.seen.length]) /\ σ.b 7900000 = some (.arr 9 1 (s'.seen.map stE)) /\ σ.t 2 = .bx 2 0 /\ σ.b 2 = some (.box [.s (.string ⟨#[]⟩), .s (.int .i64 0), .nil]) /\ σ.t 3 = .bx 3 0 /\ σ.b 3 = some (.box [.s (.string tn), .s (.int .i64 tp), .bs 888 3 l'.length]) /\ σ.b 888 = some (.arr 68 3 (l'.map MCon.own))) (T.length - s2.i) ⟨T.length + 1, [], s2, rfl, by omega, hi2, Nat.zero_le _, hv2, hF.symm, ?_⟩ ?_
 ·simp only [go_sem, simprocAttr]
  all_goals rfl
 ·rintro m σ ⟨j, l', s', rfl, hj, hsi, hll, hvv, hap, h0, b9, b7, h2, b2, h3, b3, b8⟩ K' hK
  obtain ⟨j, rfl⟩ : ∃ q, j = q + 1 := ⟨j - 1, by omega⟩
  by_cases z0 : s'.code = 0
  ·have f0 := kT z0
   rcases hqc : conS T e s' with ⟨c, s3⟩
   rw [cons1_go z0 hqc] at hap
   have bc := WG (T := T) (e := e) s'
   have vc := VI (T := T) (e := e) s'
   have ac := con_arg (T := T) (e := e) s'
   rw [hqc] at bc vc ac
   simp only at bc vc ac
   have hi3 := bc.2 hsi
   have hge := bc.1
   have hw := yq T e s' (by omega) 4 (by decide)
   have bw := ux (T := T) (e := e) s' (k := 4) (by decide)
   have vw := yK (T := T) (e := e) s' 4
   unfold conS at hqc
   rcases hqw : xp T e s' 4 with ⟨nm, s4⟩
   rw [hqw] at hw bw vw hqc
   simp only at hw bw vw hqc
   have hio := xw T e s4 (⟨#[111, 102]⟩ : ByteArray)
   have hib := xw T e s3 (⟨#[124]⟩ : ByteArray)
   have hown := MCon.own_eq c
   rw [xb, xb] at hw
   rw [xg] at hio hib
   cases hof : isS T e s4 (⟨#[111, 102]⟩ : ByteArray) with
   | true =>
    have hlt := xt hof (xa (l := [111, 102]) (by simp))
    rw [hof, if_pos rfl] at hqc
    rw [hof] at hio
    have hty := c_l03Ty (T := T) (e := e) hT 101 (by omega) (advS s4) hlt.2 (by rw [uN, vw]; exact hvv)
    rw [show (101 : Int) - ((101 : Nat) : Int) = 0 by rfl] at hty
    rcases hqt : tyF T e 101 (advS s4) with ⟨a, s5⟩
    rw [hqt] at hty hqc
    injection hqc with e1 e2
    subst e1 e2
    simp only at hty hown hge hi3 vc ac
    unfold advS at hty
    rw [xb, xb] at hty
    cases hbar : isS T e s5 (⟨#[124]⟩ : ByteArray) with
    | true =>
     have hlb := xt hbar (xa (l := [124]) (by simp))
     rw [hbar, if_pos rfl] at hap
     rw [hbar] at hib
     (have hWf := w11 @h0 @b9 @b7 @h2 @b2 @h3 @b3 @b8 @xe @xd @f0; repeat' (first | refine zS ?_ | refine zI ?_ ?_ | refine zH hw ?_ | refine zK (hio) ?_ | refine zH hty ?_ | refine zK (hib) ?_ | exact zF0 | refine zD fun hb => ?_ | exact zC | refine zT ?_ | fail))
     refine hK (T.length - (s5.i + 1)) _ (by omega) ⟨j, _, advS s5, rfl, by show T.length - (s5.i + 1) < j; omega, hlb.2, by rw [List.length_append]; show l'.length + 1 <= s5.i + 1; omega, by rw [uN, vc]; exact hvv, hap, ?_⟩
     simp only [go_sem, simprocAttr, h0, b9, b7, h2, b2, h3, b3, b8, List.map_append, List.length_append, hown]
     all_goals exact ⟨rfl, rfl⟩
    | false =>
     rw [hbar, if_neg (by decide)] at hap
     rw [hbar] at hib
     injection hap with e1 e2
     subst e1 e2
     (have hWf := w12 @h0 @b9 @b7 @h2 @b2 @h3 @b3 @b8 @xe @xd @f0 @hown; repeat' (first | refine zS ?_ | refine zI ?_ ?_ | refine zH hw ?_ | refine zK (hio) ?_ | refine zH hty ?_ | refine zK (hib) ?_ | refine zH hend ?_ | exact zF0 | refine zD fun hb => ?_ | exact zC | refine zT ?_ | fail))
     all_goals rfl
   | false =>
    rw [hof, if_neg (by decide)] at hqc
    rw [hof] at hio
    injection hqc with e1 e2
    subst e1 e2
    simp only at hown hge hi3 vc ac
    cases hbar : isS T e s4 (⟨#[124]⟩ : ByteArray) with
    | true =>
     have hlb := xt hbar (xa (l := [124]) (by simp))
     rw [hbar, if_pos rfl] at hap
     rw [hbar] at hib
     iterate 4 (refine xA ?_; simp only [go_sem, simprocAttr, h0, b9, b7, h2, b2, h3, b3, b8, xe, xd, f0]; (have hWf := w11 @h0 @b9 @b7 @h2 @b2 @h3 @b3 @b8 @xe @xd @f0; repeat' (first | refine zY ?_ | refine zI ?_ ?_ | refine zH hw ?_ | exact zF1 | refine zD fun hb => ?_ | exact zC | refine zT ?_ | fail)))
     refine zc 4 2 889 (row := [.s (.string nm), .s (.bool false), .nil]) 159 3 (by simp only [go_sem, simprocAttr]) rfl (by decide) rfl ?_
     (have hWf := w11 @h0 @b9 @b7 @h2 @b2 @h3 @b3 @b8 @xe @xd @f0; repeat' (first | refine zS ?_ | refine zI ?_ ?_ | refine zK (hio) ?_ | refine zK (hib) ?_ | exact zF0 | refine zD fun hb => ?_ | exact zC | refine zT ?_ | fail))
     refine hK (T.length - (s4.i + 1)) _ (by omega) ⟨j, _, advS s4, rfl, by show T.length - (s4.i + 1) < j; omega, hlb.2, by rw [List.length_append]; show l'.length + 1 <= s4.i + 1; omega, by rw [uN, vc]; exact hvv, hap, ?_⟩
     simp only [go_sem, simprocAttr, h0, b9, b7, h2, b2, h3, b3, b8, List.map_append, List.length_append, hown]
     all_goals exact ⟨rfl, rfl⟩
    | false =>
     rw [hbar, if_neg (by decide)] at hap
     rw [hbar] at hib
     injection hap with e1 e2
     subst e1 e2
     iterate 4 (refine xA ?_; simp only [go_sem, simprocAttr, h0, b9, b7, h2, b2, h3, b3, b8, xe, xd, f0]; (have hWf := w11 @h0 @b9 @b7 @h2 @b2 @h3 @b3 @b8 @xe @xd @f0; repeat' (first | refine zY ?_ | refine zI ?_ ?_ | refine zH hw ?_ | exact zF1 | refine zD fun hb => ?_ | exact zC | refine zT ?_ | fail)))
     refine zc 4 2 889 (row := [.s (.string nm), .s (.bool false), .nil]) 159 3 (by simp only [go_sem, simprocAttr]) rfl (by decide) rfl ?_
     (have hWf := w12 @h0 @b9 @b7 @h2 @b2 @h3 @b3 @b8 @xe @xd @f0 @hown; repeat' (first | refine zS ?_ | refine zI ?_ ?_ | refine zK (hio) ?_ | refine zK (hib) ?_ | refine zH hend ?_ | exact zF0 | refine zD fun hb => ?_ | exact zC | refine zT ?_ | fail))
     all_goals rfl
  ·have f0 := kF z0
   rw [xak z0] at hap
   injection hap with e1 e2
   subst e1 e2
   (have hWf := w11 @h0 @b9 @b7 @h2 @b2 @h3 @b3 @b8 @xe @xd @f0; repeat' (first | refine zS ?_ | refine zI ?_ ?_ | refine zH hend ?_ | exact zF0 | refine zD fun hb => ?_ | exact zC | refine zT ?_ | fail))
   all_goals rfl
end Go.Proofs.YtgcdbmcoendcdaaGreat
namespace Go.Proofs.YtgcdbmcoendcdaaGreat
open Go.RowKit
theorem at_some' {s : ByteArray} {k : Nat} (h : k < s.size) : s.data.toList[k]? = some s[k] := List.getElem?_eq_getElem h
theorem at_get {s : ByteArray} {k : Nat} (h : k < s.size) : s.data.toList[k]'h = s[k] := rfl
theorem xaE {s : ByteArray} (h : 1 <= s.size) : s.data.toList ≠ [] := by
 intro e
 have := congrArg List.length e
 rw [blen] at this
 simp only [List.length_nil] at this; omega
noncomputable def txtV (s : ByteArray) : Value := .tuple #[.int .i64 ((txtO s.data.toList).getD 0), .bool (txtO s.data.toList).isSome]
theorem U4 {s : ByteArray} {n : Int} (h : txtO s.data.toList = some n) : txtV s = .tuple #[.int .i64 n, .bool true] := by unfold txtV; rw [h]; rfl
theorem vj {s : ByteArray} (h : txtO s.data.toList = none) : txtV s = .tuple #[.int .i64 0, .bool false] := by unfold txtV; rw [h]; rfl
theorem Zi {s : ByteArray} {n : Int} : bs (numT n) = s ↔ numT n = s.data.toList := by
 constructor
 ·intro h; rw [<- h]; rfl
 ·intro h; rw [h]; exact bs_of s
theorem eq45 {b : UInt8} : ((b.toNat : Int) == 45) = decide (b = 45) := by
 rw [Bool.eq_iff_iff]
 simp only [beq_iff_eq, decide_eq_true_eq]
 exact ⟨fun h => UInt8.toNat.inj (by have this : b.toNat = 45 := (by omega); rw [this]; rfl), fun h => by rw [h]; rfl⟩
theorem offL_s {s : ByteArray} (h : 0 < s.size) : offL s.data.toList = if s[0] = 45 then 1 else 0 := by
 by_cases e : s[0] = 45
 ·rw [if_pos e]; exact offL_of (by rw [at_some' h, e])
 ·rw [if_neg e]; exact VZ (by rw [at_some' h]; exact fun q => e (Option.some.inj q))
def small (n : Int) : Prop := 0 <= n /\ n <= 5000000000000000009
theorem xa3 {s : ByteArray} {k : Nat} (ho : offL s.data.toList <= k) (hk : k < s.size) : yx s.data.toList (k + 1) = 10 * yx s.data.toList k + ((s[k].toNat : Int) - 48) := xa4 _ _ ho hk
theorem Qb (w : World) (s : ByteArray) (hs : s.size <= maxLen) : Calls Tryz.prog 192 #[.string s] w fun e w' => e = .returned (txtV s) /\ Below w.heap.size w w' := by
 unfold maxLen at hs
 by_cases hl : 1 <= s.size /\ s.size <= 20
 ·obtain ⟨hl1, hl2⟩ := hl
  have h0 : 0 < s.size := hl1
  have HO := Lib.hid (offL_s h0)
  have HF : Hid (offL s.data.toList = if ((s[0].toNat : Int) == 45) then 1 else 0) := by
   unfold Hid; rw [HO.out, eq45]; simp
  have ho1 : offL s.data.toList <= 1 := by rw [HF.out]; split <;> omega
  go_enter Tryz.func192, Tryz.ntmps192
  go_wp2
  go_loop [4, 5] (fun nv i => ∃ (k : Nat) (n : Int), i = .int .i64 k /\ nv = .int .i64 n /\ k <= s.size /\ 0 <= n /\ n <= 5000000000000000009 /\ n = yx s.data.toList k) (fun _ i => s.size - (intOf i).toNat)
  case atStart => exact ⟨0, 0, rfl, rfl, by omega, by omega, by omega, by rw [Xw _ _ (by omega)]⟩
  case round =>
   obtain ⟨k, n, rfl, rfl, hk, hn0, hn1, hnv⟩ := hrel
   have HN := Lib.hid hnv
   clear hnv
   by_cases hlt : k < s.size
   ·have u := s[k].toNat_lt
    by_cases hskip : k = 0 /\ s[0] = 45
    ·obtain ⟨rfl, h45⟩ := hskip
     have hm : ((s[0].toNat : Int) == 45) = true := by rw [eq45]; simp [h45]
     have HV : Hid (n = yx s.data.toList 1) := by
      unfold Hid; rw [HN.out, Xw _ _ (by omega), Xw _ _ (by rw [HF.out, hm]; decide)]
     clear h45
     go_wp2
     go_round
     case rel => exact ⟨1, n, by go_num, rfl, by omega, by omega, by omega, HV.out⟩
     case measure => simp [intOf]; omega
    ·have ho : offL s.data.toList <= k := by
      rcases Nat.eq_zero_or_pos k with h | h
      ·subst h
       rw [HO.out, if_neg (fun e => hskip ⟨rfl, e⟩)]; omega
      ·omega
     have ht : ((k : Int) == 0) = false \/ (((k : Int) == 0) = true /\ ((s[0].toNat : Int) == 45) = false) := by
      by_cases h : k = 0
      ·right; refine ⟨by simp [h], ?_⟩; rw [eq45]; simpa using fun e => hskip ⟨h, e⟩
      ·left; simpa using h
     have Ho := Lib.hid ho
     clear hskip ho
     rcases ht with ht | ⟨ht, ht2⟩
     all_goals
      by_cases hd : 48 <= s[k].toNat /\ s[k].toNat <= 57
      ·obtain ⟨d1, d2⟩ := hd
       have hd1 : 48 <= (s[k].toNat : Int) := by omega
       have hd2 : (s[k].toNat : Int) <= 57 := by omega
       by_cases hbig : 500000000000000000 < n
       ·have HR := Lib.hid (vj (s := s) (Qh (l := s.data.toList) (k := k) hlt Ho.out (.inr (by rw [<- HN.out]; exact hbig))))
        go_wp2
        go_ret2
        exact ⟨congrArg Ending.returned HR.out.symm, Below.refl _ _⟩
       ·have HS := Lib.hid (xa3 Ho.out hlt)
        go_wp2
        go_round
        case rel => exact ⟨k + 1, n * 10 + ((s[k].toNat : Int) - 48), by go_num, by go_num, by omega, by omega, by omega, by rw [HS.out, <- HN.out]; omega⟩
        case measure => simp [intOf]; omega
      ·have HR := Lib.hid (vj (s := s) (Qh (l := s.data.toList) (k := k) hlt Ho.out (.inl (by rw [at_get hlt]; exact hd))))
       by_cases d1 : 48 <= (s[k].toNat : Int)
       ·have d2 : 57 < (s[k].toNat : Int) := by omega
        clear hd
        go_wp2
        go_ret2
        exact ⟨congrArg Ending.returned HR.out.symm, Below.refl _ _⟩
       ·clear hd
        go_wp2
        go_ret2
        exact ⟨congrArg Ending.returned HR.out.symm, Below.refl _ _⟩
   ·obtain rfl : k = s.size := by omega
    have HNe := Lib.hid (xaE hl1)
    cases hm : ((s[0].toNat : Int) == 45)
    ·rw [hm] at HF
     have HZ : Hid (n = if offL s.data.toList = 1 then - yx s.data.toList s.data.toList.length else yx s.data.toList s.data.toList.length) := by
      unfold Hid; rw [HF.out, blen, <- HN.out]; rfl
     have z1 : -9223372036854775808 <= n := by omega
     have z2 : n <= 9223372036854775807 := by omega
     by_cases hq : numT (n) = s.data.toList
     ·have HR := Lib.hid (U4 (Qi HNe.out _ HZ.out hq))
      have hne := z9 (Zi.2 hq)
      clear hq
      go_wp2_with (first | (go_at_call 237; refine (uK _ _ z1 z2).mono ?_; rintro e w1 ⟨rfl, hb1⟩))
      go_ret2
      exact ⟨congrArg Ending.returned HR.out.symm, hb1⟩
     ·have HR := Lib.hid (vj (txtO_no HNe.out _ HZ.out hq))
      have hne := zq (fun e => hq (Zi.1 e))
      clear hq
      go_wp2_with (first | (go_at_call 237; refine (uK _ _ z1 z2).mono ?_; rintro e w1 ⟨rfl, hb1⟩))
      go_ret2
      exact ⟨congrArg Ending.returned HR.out.symm, hb1⟩
    ·rw [hm] at HF
     have HZ : Hid (-n = if offL s.data.toList = 1 then - yx s.data.toList s.data.toList.length else yx s.data.toList s.data.toList.length) := by
      unfold Hid; rw [HF.out, blen, <- HN.out]; rfl
     have z1 : -9223372036854775808 <= -n := by omega
     have z2 : -n <= 9223372036854775807 := by omega
     by_cases hq : numT (-n) = s.data.toList
     ·have HR := Lib.hid (U4 (Qi HNe.out _ HZ.out hq))
      have hne := z9 (Zi.2 hq)
      clear hq
      go_wp2_with (first | (go_at_call 237; refine (uK _ _ z1 z2).mono ?_; rintro e w1 ⟨rfl, hb1⟩))
      go_ret2
      exact ⟨congrArg Ending.returned HR.out.symm, hb1⟩
     ·have HR := Lib.hid (vj (txtO_no HNe.out _ HZ.out hq))
      have hne := zq (fun e => hq (Zi.1 e))
      clear hq
      go_wp2_with (first | (go_at_call 237; refine (uK _ _ z1 z2).mono ?_; rintro e w1 ⟨rfl, hb1⟩))
      go_ret2
      exact ⟨congrArg Ending.returned HR.out.symm, hb1⟩
 ·have HR := Lib.hid (vj (s := s) (txtO_len (by rw [blen]; omega)))
  by_cases hl1 : s.size < 1
  ·go_enter Tryz.func192, Tryz.ntmps192
   go_wp2
   go_ret2
   exact ⟨congrArg Ending.returned HR.out.symm, Below.refl _ _⟩
  ·have h20 : 20 < s.size := by omega
   go_enter Tryz.func192, Tryz.ntmps192
   go_wp2
   go_ret2
   exact ⟨congrArg Ending.returned HR.out.symm, Below.refl _ _⟩
theorem Xv (w : World) (n : Int) (h0 : 0 <= n) (h1 : n < 16) : Calls Tryz.prog 258 #[.int .i64 n] w fun e w' => e = .returned (.int .u8 (hexI n)) /\ w = w' := by
 have h : n = 0 \/ n = 1 \/ n = 2 \/ n = 3 \/ n = 4 \/ n = 5 \/ n = 6 \/ n = 7 \/ n = 8 \/ n = 9 \/ n = 10 \/ n = 11 \/ n = 12 \/ n = 13 \/ n = 14 \/ n = 15 := by omega
 clear h0 h1
 rcases h with rfl | rfl | rfl | rfl | rfl | rfl | rfl | rfl | rfl | rfl | rfl | rfl | rfl | rfl | rfl | rfl
 all_goals
  go_enter Tryz.func258, Tryz.ntmps258
  go_wp2
  go_ret
  exact ⟨rfl, rfl⟩
theorem WW (w : World) (s : ByteArray) (hs : s.size <= 10000000000) : Calls Tryz.prog 239 #[.string s] w fun e w' => e = .returned (.string (bs (quoL s.data.toList))) /\ Below w.heap.size w w' := by
 go_enter Tryz.func239, Tryz.ntmps239
 go_wp2
 go_loopw [3, 4] (fun v i wr => ∃ k : Nat, k <= s.size /\ i = .int .i64 k /\ OwnB wr w.heap.size v (quoP s.data.toList k) /\ Below w.heap.size w wr) (fun _ i _ => s.size - (intOf i).toNat)
 case atStart => exact ⟨0, Nat.zero_le _, rfl, by rw [quoP_zero]; exact OwnB.made w _ (Nat.le_refl _) [34] (by decide), (Below.refl _ _).alloc (Nat.le_refl _) _⟩
 case round =>
  obtain ⟨k, hk, rfl, hown, hbel⟩ := hrel
  have hlen := Wa s.data.toList k
  obtain ⟨a, c, rfl⟩ := hown.len
  have HO := Lib.hid hown
  clear hown
  by_cases hlt : k < s.size
  ·have HS := Lib.hid (Xi s.data.toList k hlt)
   have hq : s[k].toNat < 256 := s[k].toNat_lt
   by_cases q1 : s[k].toNat = 10
   ·have HQ := Lib.hid (HS.out.trans (congrArg _ (quoB_n q1)))
    have t1 : ((s[k].toNat : Int) == 10) = true := by simp [q1]
    clear q1
    go_wp2_with (first | (at_builtin; refine zf wr rfl _ _ rfl w.heap.size (.slice a (quoP s.data.toList k).length c) _ rfl HO.out _ rfl [92, 110] ?_ ?_ ?_ ?_))
    ·rfl
    ·simp; omega
    ·exact hbel.size
    ·intro v' w' hown' hb'
     rw [<- HQ.out] at hown'
     go_wp2
     go_roundw
     case rel => exact ⟨k + 1, by omega, by go_num, hown', hbel.trans hb'⟩
     case measure => simp [intOf]; omega
   ·have t1 : ((s[k].toNat : Int) == 10) = false := by simp; omega
    by_cases q2 : s[k].toNat = 34 \/ s[k].toNat = 92
    ·have HQ := Lib.hid (HS.out.trans (congrArg _ (quoB_e q1 q2)))
     have T : (((s[k].toNat : Int) == 34) = true /\ True) \/ (((s[k].toNat : Int) == 34) = false /\ ((s[k].toNat : Int) == 92) = true) := by
      rcases q2 with q2 | q2
      ·left; simp [q2]
      ·right; simp [q2]
     clear q1 q2
     rcases T with ⟨t2, t3⟩ | ⟨t2, t3⟩
     all_goals
      go_wp2_with (first | (at_builtin; refine zf wr rfl _ _ rfl w.heap.size (.slice a (quoP s.data.toList k).length c) _ rfl HO.out _ rfl [92, s[k]] ?_ ?_ ?_ ?_))
      ·rfl
      ·simp; omega
      ·exact hbel.size
      ·intro v' w' hown' hb'
       replace hown' : OwnB w' w.heap.size v' (quoP s.data.toList (k + 1)) := by rw [HQ.out]; exact hown'
       go_wp2
       go_roundw
       case rel => exact ⟨k + 1, by omega, by go_num, hown', hbel.trans hb'⟩
       case measure => simp [intOf]; omega
    ·have t2 : ((s[k].toNat : Int) == 34) = false := by simp; omega
     have t3 : ((s[k].toNat : Int) == 92) = false := by simp; omega
     by_cases q3 : 32 <= s[k].toNat /\ s[k].toNat <= 126
     ·have HQ := Lib.hid (HS.out.trans (congrArg _ (quoB_p q1 q2 q3)))
      obtain ⟨t4, t5⟩ := q3
      clear q1 q2
      go_wp2_with (first | (at_builtin; refine zf wr rfl _ _ rfl w.heap.size (.slice a (quoP s.data.toList k).length c) _ rfl HO.out _ rfl [s[k]] ?_ ?_ ?_ ?_))
      ·rfl
      ·simp; omega
      ·exact hbel.size
      ·intro v' w' hown' hb'
       replace hown' : OwnB w' w.heap.size v' (quoP s.data.toList (k + 1)) := by rw [HQ.out]; exact hown'
       go_wp2
       go_roundw
       case rel => exact ⟨k + 1, by omega, by go_num, hown', hbel.trans hb'⟩
       case measure => simp [intOf]; omega
     ·have HQ := Lib.hid (HS.out.trans (congrArg _ (quoB_x q1 q2 q3)))
      have HX : Hid ([Value.int .u8 92, .int .u8 120, .int .u8 (hexI ((s[k].toNat : Int) / 16)), .int .u8 (hexI ((s[k].toNat : Int) % 16))] = ([92, 120, hexB (s[k].toNat / 16), hexB (s[k].toNat % 16)] : List UInt8).map yL) := by
       have e1 := hexV (n := (s[k].toNat : Int) / 16) (by omega) (by omega)
       have e2 := hexV (n := (s[k].toNat : Int) % 16) (by omega) (by omega)
       rw [show ((s[k].toNat : Int) / 16).toNat = s[k].toNat / 16 from by omega] at e1
       rw [show ((s[k].toNat : Int) % 16).toNat = s[k].toNat % 16 from by omega] at e2
       unfold Hid
       rw [e1, e2]; rfl
      by_cases q4 : 32 <= s[k].toNat
      all_goals
       have q5 := q3
       clear q1 q2 q3
       go_wp2_with (first | (go_at_call 258; refine (Xv _ _ (by omega) (by omega)).mono ?_; rintro e w' ⟨rfl, rfl⟩) | (at_builtin; refine zf wr rfl _ _ rfl w.heap.size (.slice a (quoP s.data.toList k).length c) _ rfl HO.out _ rfl [92, 120, hexB (s[k].toNat / 16), hexB (s[k].toNat % 16)] ?_ ?_ ?_ ?_))
       ·exact HX.out
       ·simp; omega
       ·exact hbel.size
       ·intro v' w' hown' hb'
        replace hown' : OwnB w' w.heap.size v' (quoP s.data.toList (k + 1)) := by rw [HQ.out]; exact hown'
        go_wp2
        go_roundw
        case rel => exact ⟨k + 1, by omega, by go_num, hown', hbel.trans hb'⟩
        case measure => simp [intOf]; omega
  ·have HE := Lib.hid (Z9 s.data.toList k (by rw [blen]; omega))
   go_wp2_with (first | (at_builtin; refine zf wr rfl _ _ rfl w.heap.size (.slice a (quoP s.data.toList k).length c) _ rfl HO.out _ rfl [34] ?_ ?_ ?_ ?_))
   ·rfl
   ·simp; omega
   ·exact hbel.size
   ·intro v' w' hown' hb'
    rw [HE.out] at hown'
    have hcv := vk hown'
    go_wp2
    go_ret
    exact ⟨rfl, hbel.trans hb'⟩
def yh (n : Int) : Int := if 48 <= n /\ n <= 57 then n - 48 else if 97 <= n /\ n <= 102 then n - 87 else 0
theorem VM (n : Int) : 0 <= yh n /\ yh n <= 15 := by unfold yh; split; omega; split <;> omega
theorem YH {n : Int} (h0 : 0 <= n) (h1 : n < 16) : yh (hexI n) = n := by unfold yh hexI; split <;> split <;> (try split) <;> omega
theorem hexI_eq {d n : Int} (h0 : 0 <= d) (h1 : d < 16) (h : hexI d = n) : d = yh n := by rw [<- h, YH h0 h1]
theorem xax {n : Int} (h : ∀ d : Int, 0 <= d -> d < 16 -> hexI d ≠ n) : yh n = 0 := by
 unfold yh
 split
 ·rename_i q; exact absurd (show hexI (n - 48) = n by unfold hexI; rw [if_pos (by omega)]; omega) (h _ (by omega) (by omega))
 ·split
  ·rename_i q; exact absurd (show hexI (n - 87) = n by unfold hexI; rw [if_neg (by omega)]; omega) (h _ (by omega) (by omega))
  ·rfl
theorem VO {n : Nat} (h : n < 16) : ((hexB n).toNat : Int) = hexI n := by
 have := hexI_bd (n := (n : Int)) (by omega) (by omega)
 unfold hexB
 rw [UInt8.toNat_ofNat']
 omega
theorem Qd (w : World) (n : Int) : Calls Tryz.prog 238 #[.int .u8 n] w fun e w' => e = .returned (.int .i64 (yh n)) /\ w = w' := by
 go_enter Tryz.func238, Tryz.ntmps238
 go_wp2
 go_loop [3] (fun i => ∃ k : Nat, k <= 16 /\ i = .int .i64 k /\ (∀ d : Int, 0 <= d -> d < k -> hexI d ≠ n)) (fun i => 16 - (intOf i).toNat)
 case atStart => exact ⟨0, Nat.zero_le _, rfl, by omega⟩
 case round =>
  obtain ⟨k, hk, rfl, hall⟩ := hrel
  have HA := Lib.hid hall
  clear hall
  by_cases hlt : k < 16
  ·cases he : (hexI (k : Int) == n)
   ·have HF := Lib.hid (show hexI (k : Int) ≠ n by simpa using he)
    go_wp2_with (first | (go_at_call 258; refine (Xv _ _ (by omega) (by omega)).mono ?_; rintro e w' ⟨rfl, rfl⟩))
    go_round
    case rel =>
     refine ⟨k + 1, by omega, by go_num, fun d h0 h1 => ?_⟩
     by_cases e : d = k
     ·subst e; exact HF.out
     ·exact HA.out d h0 (by omega)
    case measure => simp [intOf]; omega
   ·have HF := Lib.hid (hexI_eq (d := (k : Int)) (n := n) (by omega) (by omega) (by simpa using he))
    go_wp2_with (first | (go_at_call 258; refine (Xv _ _ (by omega) (by omega)).mono ?_; rintro e w' ⟨rfl, rfl⟩))
    go_ret
    exact ⟨ret_i HF.out, rfl⟩
  ·have HF := Lib.hid (xax (n := n) (fun d h0 h1 => HA.out d h0 (by omega)))
   go_wp2
   go_ret
   exact ⟨ret_i HF.out.symm, rfl⟩
theorem zZ {s : ByteArray} {k : Nat} (h : k < s.size) : s.data.toList[k]? = some s[k] := List.getElem?_eq_getElem h
noncomputable def unqV (s : ByteArray) : Value := .tuple #[.string (bs ((unqO s.data.toList).getD [])), .bool (unqO s.data.toList).isSome]
theorem unqV_some {s : ByteArray} {out : List UInt8} (h : unqO s.data.toList = some out) : unqV s = .tuple #[.string (bs out), .bool true] := by unfold unqV; rw [h]; rfl
theorem unqV_none {s : ByteArray} (h : unqO s.data.toList = none) : unqV s = .tuple #[.string (bs []), .bool false] := by unfold unqV; rw [h]; rfl
theorem quo_eq {s : ByteArray} {out : List UInt8} : bs (quoL out) = s ↔ quoL out = s.data.toList := by
 constructor
 ·intro h; rw [<- h]; rfl
 ·intro h; rw [h]; exact bs_of s
theorem hexS {x c d : UInt8} (h1 : c = hexB (x.toNat / 16)) (h2 : d = hexB (x.toNat % 16)) : (x.toNat : Int) = 16 * yh c.toNat + yh d.toNat := by
 have hx := x.toNat_lt
 rw [h1, h2, VO (by omega), VO (by omega), YH (by omega) (by omega), YH (by omega) (by omega)]
 omega
theorem byte_eq {x : UInt8} {z : Int} (h : (x.toNat : Int) = z) : x = UInt8.ofNat z.toNat := by
 apply UInt8.toNat.inj
 have := x.toNat_lt
 rw [UInt8.toNat_ofNat']; omega
theorem UInv.hexS {s : ByteArray} {k : Nat} {out : List UInt8} (h : UInv s.data.toList k out) (hk : k + 3 < s.size) (h0 : s[k] = 92) (h1 : s[k + 1] = 120) :
  UInv s.data.toList (k + 4) (out ++ [UInt8.ofNat (16 * yh s[k + 2].toNat + yh s[k + 3].toNat).toNat]) :=
 h.hex (by rw [blen]; omega) (by rw [zZ (by omega), h0]) (by rw [zZ (by omega), h1]) (zZ (by omega)) (zZ (by omega)) (fun x e1 e2 => byte_eq (Go.Proofs.YtgcdbmcoendcdaaGreat.hexS e1 e2))
theorem xa1 {P : Program} {ops : Array Oper} {o : Oper} {a : Act} {w : World} {K : Act -> World -> Prop} {Q : Exit -> Act -> World -> Prop} {E : Prop} (hg : o.guard = none) (h : Oper.wp P o a w K Q) :
  if Region.wanted o (yielded ops a.tmps) = true then Oper.wp P o a w K Q else E := by
 rw [if_pos (by simp [Region.wanted, hg])]; exact h
theorem by_ne {x y : UInt8} (h : x ≠ y) : ((x.toNat : Int) == (y.toNat : Int)) = false := by
 rw [beq_eq_false_iff_ne]
 intro e
 exact h (UInt8.toNat.inj (by omega))
theorem by_ne' {x y : UInt8} (h : x ≠ y) : ((x.toNat : Int) != (y.toNat : Int)) = true := by
 rw [bne_iff_ne]
 intro e
 exact h (UInt8.toNat.inj (by omega))
theorem Qc (w : World) (s : ByteArray) (hs : s.size <= 9000000000) : Calls Tryz.prog 195 #[.string s] w fun e w' => e = .returned (unqV s) /\ Below w.heap.size w w' := by
 go_enter Tryz.func195, Tryz.ntmps195
 go_wp2
 go_loopw [4, 5] (fun v i wr => ∃ (k : Nat) (out : List UInt8), i = .int .i64 k /\ out.length <= k /\ k <= s.size + 1 /\ UInv s.data.toList k out /\ OwnB wr w.heap.size v out /\ Below w.heap.size w wr) (fun _ i _ => s.size + 2 - (intOf i).toNat)
 case atStart => exact ⟨1, [], rfl, by simp, by omega, UInv.start _, OwnB.made w _ (Nat.le_refl _) [] (by decide), (Below.refl _ _).alloc (Nat.le_refl _) _⟩
 case round =>
  obtain ⟨k, out, rfl, hl, hks, hinv, hown, hbel⟩ := hrel
  obtain ⟨a, c, rfl⟩ := hown.len
  have HO := Lib.hid hown
  have HI := Lib.hid hinv
  clear hown hinv
  by_cases hlt : k + 1 < s.size
  ·have hlt0 : k < s.size := by omega
   have hwb : (k : Int) < (s.size : Int) - 1 := by omega
   by_cases c0 : s[k] = 92
   ·have t0 : ((s[k].toNat : Int) != 92) = false := by rw [c0]; rfl
    by_cases c1 : s[k + 1] = 110
    ·have HS := Lib.hid (HI.out.newline (by rw [blen]; omega) ((zZ hlt0).trans (congrArg some c0)) ((zZ hlt).trans (congrArg some c1)))
     have t1 : ((s[k + 1].toNat : Int) == 110) = true := by rw [c1]; rfl
     clear c0 c1
     go_wp2_with (first | (at_builtin; refine zf wr rfl _ _ rfl w.heap.size (.slice a out.length c) _ rfl HO.out _ rfl [10] ?_ ?_ ?_ ?_))
     ·rfl
     ·simp; omega
     ·exact hbel.size
     ·intro v' w' hown' hb'
      go_wp2
      go_roundw
      case rel => exact ⟨k + 2, _, by go_num, by simp; omega, by omega, HS.out, hown', hbel.trans hb'⟩
      case measure => simp [intOf]; omega
    ·have t1 : ((s[k + 1].toNat : Int) == 110) = false := by_ne c1
     by_cases c2 : s[k + 1] = 120
     ·have t2 : ((s[k + 1].toNat : Int) == 120) = true := by rw [c2]; rfl
      by_cases c3 : k + 3 < s.size
      ·have HS := Lib.hid (HI.out.hexS c3 c0 c2)
       have hh1 := VM s[k + 2].toNat
       have hh2 := VM s[k + 3].toNat
       have HV := Lib.hid (Vx (z := 16 * yh s[k + 2].toNat + yh s[k + 3].toNat) (by omega) (by omega))
       clear c0 c1 c2
       go_wp2_with fail
       have i1 : (0 : Int) <= (k : Int) + 1 + 1 := by omega
       have i2 : (k : Int) + 1 + 1 < (s.size : Int) := by omega
       have i3 : (0 : Int) <= (k : Int) + 1 + 2 := by omega
       have i4 : (k : Int) + 1 + 2 < (s.size : Int) := by omega
       have n1 : ((k : Int) + 1 + 1).toNat = k + 2 := by omega
       have n2 : ((k : Int) + 1 + 2).toNat = k + 3 := by omega
       have HL := Lib.hid (show out.length + 1 <= 140737488355328 by omega)
       have e1 : IntKind.i64.wrap ((k : Int) + 1 + 1) = (k : Int) + 1 + 1 := IntWalk.i64_in _ (by omega)
       have e2 : IntKind.i64.wrap ((k : Int) + 1 + 2) = (k : Int) + 1 + 2 := IntWalk.i64_in _ (by omega)
       have e3 : IntKind.i64.wrap (16 * yh s[k + 2].toNat) = 16 * yh s[k + 2].toNat := IntWalk.i64_in _ (by omega)
       have e4 : IntKind.i64.wrap (16 * yh s[k + 2].toNat + yh s[k + 3].toNat) = 16 * yh s[k + 2].toNat + yh s[k + 3].toNat := IntWalk.i64_in _ (by omega)
       have e5 : IntKind.u8.wrap (16 * yh s[k + 2].toNat + yh s[k + 3].toNat) = 16 * yh s[k + 2].toNat + yh s[k + 3].toNat := IntWalk.u8_in _ (by omega)
       go_region_law (first | (refine xa1 rfl ?_; go_simp; (go_at_call 238; refine (Qd _ _).mono ?_; rintro e w' ⟨rfl, rfl⟩); dsimp only) | (refine WX wr.drew rfl _ _ rfl w.heap.size (.slice a out.length c) _ rfl HO.out.drew _ rfl [UInt8.ofNat (16 * yh s[k + 2].toNat + yh s[k + 3].toNat).toNat] (congrArg (fun x => [x]) HV.out) HL.out hbel.size ?_; intro v' w' hown' hb'))
       all_goals
        go_wp2
        go_roundw
        case rel => exact ⟨k + 4, _, by go_num, by simp; omega, by omega, HS.out, hown', hbel.trans (((Below.refl _ _).drew).trans hb')⟩
        case measure => simp [intOf]; omega
      ·have HS := Lib.hid (HI.out.escaped (by rw [blen]; omega) ((zZ hlt0).trans (congrArg some c0)) (zZ hlt) c1 (.inr (by rw [blen]; omega)))
       clear c0 c1 c2
       go_wp2_with (first | (at_builtin; refine zf wr rfl _ _ rfl w.heap.size (.slice a out.length c) _ rfl HO.out _ rfl [s[k + 1]] ?_ ?_ ?_ ?_))
       ·rfl
       ·simp; omega
       ·exact hbel.size
       ·intro v' w' hown' hb'
        go_wp2
        go_roundw
        case rel => exact ⟨k + 2, _, by go_num, by simp; omega, by omega, HS.out, hown', hbel.trans hb'⟩
        case measure => simp [intOf]; omega
     ·have t2 : ((s[k + 1].toNat : Int) == 120) = false := by_ne c2
      have HS := Lib.hid (HI.out.escaped (by rw [blen]; omega) ((zZ hlt0).trans (congrArg some c0)) (zZ hlt) c1 (.inl c2))
      clear c0 c1 c2
      go_wp2_with (first | (at_builtin; refine zf wr rfl _ _ rfl w.heap.size (.slice a out.length c) _ rfl HO.out _ rfl [s[k + 1]] ?_ ?_ ?_ ?_))
      ·rfl
      ·simp; omega
      ·exact hbel.size
      ·intro v' w' hown' hb'
       go_wp2
       go_roundw
       case rel => exact ⟨k + 2, _, by go_num, by simp; omega, by omega, HS.out, hown', hbel.trans hb'⟩
       case measure => simp [intOf]; omega
   ·have HS := Lib.hid (HI.out.plain (by rw [blen]; omega) (zZ hlt0) c0)
    have t0 : ((s[k].toNat : Int) != 92) = true := by_ne' c0
    clear c0
    go_wp2_with (first | (at_builtin; refine zf wr rfl _ _ rfl w.heap.size (.slice a out.length c) _ rfl HO.out _ rfl [s[k]] ?_ ?_ ?_ ?_))
    ·rfl
    ·simp; omega
    ·exact hbel.size
    ·intro v' w' hown' hb'
     go_wp2
     go_roundw
     case rel => exact ⟨k + 1, _, by go_num, by simp; omega, by omega, HS.out, hown', hbel.trans hb'⟩
     case measure => simp [intOf]; omega
  ·have HD := Lib.hid (HI.out.done (by rw [blen]; omega))
   have hwb : ¬ (k : Int) < (s.size : Int) - 1 := by omega
   have hz : (bs out).size <= 10000000000 := by rw [Y8]; omega
   have hcv := vk HO.out
   have hcv2 := fun (w2 : World) (hb2 : Below wr.heap.size wr w2) => vk (HO.out.kept hb2 (Nat.le_refl _))
   by_cases hq : quoL out = s.data.toList
   ·have HR := Lib.hid (unqV_some (unqO_some HD.out hq))
    have hne : ((bs (quoL (bs out).data.toList)).toList == s.toList) = true := z9 (quo_eq.2 hq)
    clear hq
    go_wp2_with (first | (go_at_call 239; refine (WW _ _ hz).mono ?_; rintro e w1 ⟨rfl, hb1⟩))
    go_ret2
    exact ⟨congrArg Ending.returned HR.out.symm, hbel.trans (hb1.mono hbel.size)⟩
   ·have HR := Lib.hid (unqV_none (unqO_none HD.out hq))
    have hne : ((bs (quoL (bs out).data.toList)).toList == s.toList) = false := zq (fun e => hq (quo_eq.1 e))
    clear hq
    go_wp2_with (first | (go_at_call 239; refine (WW _ _ hz).mono ?_; rintro e w1 ⟨rfl, hb1⟩))
    go_ret2
    exact ⟨congrArg Ending.returned HR.out.symm, hbel.trans (hb1.mono hbel.size)⟩
theorem FCon.ofFix {f : FuncId} {fn : Func} {c : Code} (hf : Tryz.prog.funcs[f]? = some fn) (hname : (fn.name == "runtime.NumGoroutine") = false) (hb : fn.body = some c) {ars : List D} {v : Value} {r : D} (hl : ars.all lentB = true) (hr : ∀ (g : Gh) (w : World), RNs g w r v)
  (h : ∀ (w : World) (S : Nat -> Prop) (up : Nat -> Option Pos) (vs : List Value), vs.length = ars.length -> (∀ (j : Nat) (b : D) (u : Value), ars[j]? = some b -> vs[j]? = some u -> RB S up w b u) -> Calls Tryz.prog f vs.toArray w fun e w' => e = .returned v /\ Below w.heap.size w w') : FCon Tryz.prog f ars (fun x _ => x = r) := by
 refine ⟨fun vs w => ?_, fun w g vs hS hu hl' hv => (h w g.S g.up vs hl' (fun j b u q1 q2 => (hv j b u q1 q2).lent (List.all_eq_true.1 hl b (List.mem_of_getElem? q1)))).mono ?_⟩
 ·have hname' : ¬ fn.name = "runtime.NumGoroutine" := by simpa using hname
  have hbn : ¬ fn.body = none := by rw [hb]; simp
  simp [callFunc, hf, hname', hbn]
 ·rintro e w' ⟨rfl, hbel⟩
  exact ⟨v, ⟨fun _ => none, fun _ => 0, fun _ => none, g.S⟩, r, [], rfl, ⟨hbel.os, hbel.tape, hbel.output, hbel.size, fun k hk => by omega⟩, fun b hb' _ => hbel.block b hb', fun _ q => q, fun _ _ q => .inl q, fun b q => Nat.lt_of_lt_of_le (hS b q) hbel.size, fun b p q => (by cases q), rfl, hr _ _, fun j d u q => (by simp at q)⟩
theorem RNs.pair {g : Gh} {w : World} {v1 v2 : Value} (o1 : v1.oneCell' = true) (o2 : v2.oneCell' = true) : RNs g w (.tup [.s v1, .s v2]) (.tuple #[v1, v2]) := ⟨[v1, v2], rfl, rfl, fun j x u hx hu => by
  match j, hx, hu with
  | 0, hx, hu => simp at hx hu; subst hx hu; exact Rep.s o1
  | 1, hx, hu => simp at hx hu; subst hx hu; exact Rep.s o2⟩
theorem FCon.ofPair {f : FuncId} {fn : Func} {c : Code} (hf : Tryz.prog.funcs[f]? = some fn) (hname : (fn.name == "runtime.NumGoroutine") = false) (hb : fn.body = some c) (s : ByteArray) {v1 v2 : Value} (o1 : v1.oneCell' = true) (o2 : v2.oneCell' = true)
  (h : ∀ w, Calls Tryz.prog f #[.string s] w fun e w' => e = .returned (.tuple #[v1, v2]) /\ Below w.heap.size w w') : FCon Tryz.prog f [.s (.string s)] (fun r _ => r = .tup [.s v1, .s v2]) := by
 refine FCon.ofFix hf hname hb rfl (fun _ _ => RNs.pair o1 o2) fun w S up vs hl hv => ?_
 obtain ⟨v, rfl, h'⟩ := XH (P := fun _ d u => RB S up w d u) hl hv
 have := Rep.s_inv (show Rep S up w none (.s (.string s)) v from h')
 subst this
 exact h w
theorem wU (s : ByteArray) (hs : s.size <= maxLen) : FCon Tryz.prog 192 [.s (.string s)] (fun r _ => r = .tup [.s (.int .i64 ((txtO s.data.toList).getD 0)), .s (.bool (txtO s.data.toList).isSome)]) := FCon.ofPair Tryz.func192 rfl rfl s rfl rfl fun w => Qb w s hs
theorem wV (s : ByteArray) (hs : s.size <= 9000000000) : FCon Tryz.prog 195 [.s (.string s)] (fun r _ => r = .tup [.s (.string (bs ((unqO s.data.toList).getD []))), .s (.bool (unqO s.data.toList).isSome)]) := FCon.ofPair Tryz.func195 rfl rfl s rfl rfl fun w => Qc w s hs
theorem Xb (s : ByteArray) : FCon Tryz.prog 109 [.s (.string s)] (fun r _ => r = .s (.bool (inL s zd))) := FCon.ofStr Tryz.func109 rfl rfl s _ fun w => YY w s
theorem VK {s : ByteArray} {i j : Nat} (h : j <= s.size) : (s.extract i j).size = j - i := by
 rw [ByteArray.size_extract]; omega
theorem FCon.nilH {P : Program} {f : FuncId} {args : List D} {e k : Nat} {rows : List (List D)} {rest : List D} (h : FCon P f args (fun r _ => r = .tup (.osl e k rows :: rest) \/ (rows = [] /\ r = .tup (.nil :: rest)))) : FCon P f args (fun r _ => r = .tup (.osl e k rows :: rest)) := h.wk fun r o e' => by
 rcases e' with rfl | ⟨rfl, rfl⟩
 ·exact ⟨_, rfl, fun _ _ _ q => q⟩
 ·refine ⟨_, rfl, fun g w v q => ?_⟩
  obtain ⟨us, rfl, n1, n2⟩ := q
  refine ⟨us, rfl, by simpa using n1, fun m x u hx hu => ?_⟩
  match m, hx with
  | 0, hx =>
   simp at hx; subst hx
   exact Rep.nil_osl _ _ (n2 0 _ u rfl hu)
  | m + 1, hx => exact n2 (m + 1) x u hx hu
noncomputable def lexD (R : List MTok × Int × Int) : D := .tup [.osl 234 4 (R.1.map MTok.own), .s (.int .i64 R.2.1), .s (.int .i64 R.2.2)]
def bareL (R : List MTok × Int × Int) (r : D) : Prop := r = lexD R \/ (R.1 = [] /\ r = .tup [.nil, .s (.int .i64 R.2.1), .s (.int .i64 R.2.2)])
theorem zu {R : List MTok × Int × Int} {c p : Int} (h : R = ([], c, p)) : bareL R (.tup [.nil, .s (.int .i64 c), .s (.int .i64 p)]) := by subst h; exact .inr ⟨rfl, rfl⟩
theorem FCon.bareL {f : FuncId} {args : List D} {R : List MTok × Int × Int} (h : FCon Tryz.prog f args (fun r _ => bareL R r)) : FCon Tryz.prog f args (fun r _ => r = lexD R) := by
 refine FCon.nilH (h.mono fun r o q => ?_)
 rcases q with q | ⟨q1, q2⟩
 ·exact .inl q
 ·exact .inr ⟨by rw [q1]; rfl, q2⟩
theorem wb (ts : List MTok) : xJ (ts.map MTok.own) = ts.map MTok.enc := MTok.frzS ts
end Go.Proofs.YtgcdbmcoendcdaaGreat
namespace Go.Proofs.YtgcdbmcoendcdaaGreat
attribute [local go_sem] Option.getD_some Option.isSome_none Option.isSome_some
open Go.RowKit
def u9 (s : ByteArray) : Int := if yl s = true then 3 else if conM s.data.toList = true then 4 else if inL s zd = true then 6 else 0
theorem Xc (s : ByteArray) (hs : s.size <= maxLen) : FCon Tryz.prog 193 [.s (.string s)] (fun r _ => r = .ag [.s (.int .i64 (u9 s)), .s (.int .i64 0), .s (.string s), .s (.int .i64 0)]) := by
 unfold u9
 cases hn : yl s with
 | true =>
  refine FI PM Tryz.func193 Tryz.ntmps193 [] rfl rfl ?_
  (have hWf := w1 @hn; repeat' (first | refine zS ?_ | refine zI ?_ ?_ | ((with_reducible apply xc); refine zG (xr _ hs) ?_) | ((with_reducible apply xl); refine xi (xr _ hs) ?_) | exact zF0 | refine zD fun hb => ?_ | exact zC | refine zT ?_ | fail))
 | false =>
  cases hc : conM s.data.toList with
  | true =>
   refine FI PM Tryz.func193 Tryz.ntmps193 [] rfl rfl ?_
   (have hWf := w2 @hn @hc; repeat' (first | refine zS ?_ | refine zI ?_ ?_ | ((with_reducible apply xc); refine zG (xr _ hs) ?_) | ((with_reducible apply xl); refine xi (xr _ hs) ?_) | ((with_reducible apply xc); refine zG (yy _ hs) ?_) | ((with_reducible apply xl); refine xi (yy _ hs) ?_) | exact zF0 | refine zD fun hb => ?_ | exact zC | refine zT ?_ | fail))
  | false =>
   cases hk : inL s zd with
   | true =>
    refine FI PM Tryz.func193 Tryz.ntmps193 [] rfl rfl ?_
    (have hWf := w3 @hn @hc @hk; repeat' (first | refine zS ?_ | refine zI ?_ ?_ | ((with_reducible apply xc); refine zG (xr _ hs) ?_) | ((with_reducible apply xl); refine xi (xr _ hs) ?_) | ((with_reducible apply xc); refine zG (yy _ hs) ?_) | ((with_reducible apply xl); refine xi (yy _ hs) ?_) | ((with_reducible apply xc); refine zG (Xb _) ?_) | ((with_reducible apply xl); refine xi (Xb _) ?_) | exact zF0 | refine zD fun hb => ?_ | exact zC | refine zT ?_ | fail))
   | false =>
    refine FI PM Tryz.func193 Tryz.ntmps193 [] rfl rfl ?_
    (have hWf := w3 @hn @hc @hk; repeat' (first | refine zS ?_ | refine zI ?_ ?_ | ((with_reducible apply xc); refine zG (xr _ hs) ?_) | ((with_reducible apply xl); refine xi (xr _ hs) ?_) | ((with_reducible apply xc); refine zG (yy _ hs) ?_) | ((with_reducible apply xl); refine xi (yy _ hs) ?_) | ((with_reducible apply xc); refine zG (Xb _) ?_) | ((with_reducible apply xl); refine xi (Xb _) ?_) | exact zF0 | refine zD fun hb => ?_ | exact zC | refine zT ?_ | fail))
theorem lexF_tok' {s : ByteArray} {f i n : Nat} {t : MTok} {acc : List MTok} (h : i < s.size) (hb : wD (bAt s i) = false) (hl : hasM s lpB i = false) (hT : tokM s i = (t, n, 0)) : lexF s (f + 1) i acc = lexF s f (i + n) (acc ++ [t]) := by
 rw [ZX h hb hl (by rw [hT]), hT]
theorem lexF_bad' {s : ByteArray} {f i n : Nat} {c : Int} {t : MTok} {acc : List MTok} (h : i < s.size) (hb : wD (bAt s i) = false) (hl : hasM s lpB i = false) (hT : tokM s i = (t, n, c)) (hc : c ≠ 0) : lexF s (f + 1) i acc = ([], c, (i : Int)) := by
 rw [ZU h hb hl (by rw [hT]; exact hc), hT]
theorem tokM_word {s : ByteArray} {i : Nat} (hd : digI (bAt s i) = false) (hl : (lowI (bAt s i) || uppI (bAt s i)) = true) : tokM s i = (⟨u9 (s.extract i (xC s i)), 0, s.extract i (xC s i), i⟩, if u9 (s.extract i (xC s i)) = 0 then 0 else xC s i - i, if u9 (s.extract i (xC s i)) = 0 then 5 else 0) := by
 unfold tokM u9
 rw [if_neg (by rw [hd]; simp), if_pos hl]
 split
 ·rfl
 ·split
  ·rfl
  ·split <;> rfl
theorem cls_dig {n : Int} (h : digI n = true) : clsI n = 3 /\ n ≠ 95 := by
 unfold digI at h; unfold clsI lowI uppI digI
 simp at h
 refine ⟨?_, by omega⟩
 rw [if_neg (by simp; omega), if_neg (by simp; omega), if_pos (by simp; omega)]
theorem cls_let {n : Int} (hd : digI n = false) (h : (lowI n || uppI n) = true) : (clsI n = 1 \/ clsI n = 2) /\ n ≠ 95 := by
 unfold clsI
 cases hl : lowI n with
 | true => exact ⟨.inl rfl, by unfold lowI at hl; simp at hl; omega⟩
 | false =>
  rw [hl] at h
  have h : uppI n = true := h
  rw [h]
  exact ⟨.inr rfl, by unfold uppI at h; simp at h; omega⟩
theorem cls_els {n : Int} (hd : digI n = false) (h : (lowI n || uppI n) = false) : (decide (clsI n > 0) && (n != 95)) = false := by
 simp only [Bool.or_eq_false_iff] at h
 unfold clsI
 rw [h.1, h.2, hd]
 by_cases q : n = 95
 ·subst q; rfl
 ·have : (n == 95) = false := by simpa using q
  rw [this]; rfl
theorem vG (n : Int) : decide (clsI n > 0) = worI n := by
 have h := ZJ n
 have h0 : 0 <= clsI n := by unfold clsI; split; decide; split; decide; split <;> decide
 cases hw : worI n with
 | true =>
  rw [hw] at h
  have h : clsI n ≠ 0 := by simpa using h
  simp; omega
 | false =>
  rw [hw] at h
  have h : clsI n = 0 := by simpa using h
  simp; omega
theorem cls_low (n : Int) (b : Bool) (h : lowI n = b) : (clsI n == 1) = b := by rw [cls_one, h]
theorem UI (s : ByteArray) (hs0 : s.size <= 9223372036854775807) : FCon Tryz.prog 127 [.s (.string s)] (fun r _ => r = lexD (lexM s)) := by
 refine FCon.bareL ?_
 by_cases h4 : s.size <= 4000
 ·have hM : lexM s = lexF s s.size 0 [] := by unfold lexM; rw [if_pos h4]
  rw [hM]
  have hs : s.size <= 1048576 := by omega
  refine FI PM Tryz.func127 Tryz.ntmps127 [] rfl rfl ?_
  (have hWf := f0; repeat' (first | refine zS ?_ | refine zI ?_ ?_ | exact zF0 | refine zD fun hb => ?_ | exact zC | refine zT ?_ | fail))
  refine xk (fun n σ => ∃ (f k : Nat) (acc : List MTok), n = f /\ s.size <= f + k /\ k <= s.size /\ acc.length <= k /\ lexF s f k acc = lexF s s.size 0 [] /\ σ.t 0 = .s (.string s) /\ σ.t 5 = .bs 20 4 acc.length /\ σ.b 20 = some (.arr 234 4 (acc.map MTok.own)) /\ σ.t 6 = .s (.int .i64 k)) s.size ⟨s.size, 0, [], rfl, by omega, by omega, by simp, rfl, ?_⟩ ?_
  ·simp only [go_sem, simprocAttr, Int.natCast_zero]
  ·rintro n σ ⟨f, k, acc, rfl, hf, hk, hac, hw, h0, h5, hb20, h6⟩ K' hK
   by_cases hlt : k < s.size
   ·obtain ⟨f, rfl⟩ : ∃ g, n = g + 1 := ⟨n - 1, by omega⟩
    have hb1 := ww hlt
    cases hbk : wD (bAt s k) with
    | true =>
     rw [X9 hlt hbk] at hw
     have hbk' : (bAt s k == 9 || bAt s k == 10 || bAt s k == 13 || bAt s k == 32) = true := hbk
     (have hWf := w7 @h0 @h5 @hb20 @h6 @hb1 @xX @hbk'; repeat' (first | refine zS ?_ | refine zI ?_ ?_ | exact zF0 | refine zD fun hb => ?_ | exact zC | refine zT ?_ | fail))
     refine hK f _ (by omega) ⟨f, k + 1, acc, rfl, by omega, by omega, by omega, hw, ?_⟩
     simp only [go_sem, simprocAttr, h0, h5, hb20, h6, cast1]
    | false =>
     have hbk' : (bAt s k == 9 || bAt s k == 10 || bAt s k == 13 || bAt s k == 32) = false := hbk
     have hst := x7 s k lpB hs (by omega) (by rw [wv]; omega)
     cases hlp : hasM s lpB k with
     | true =>
      have hrm := Qv s k hs hlt hlp
      cases hr : remM s k with
      | none =>
       rw [Ya hlt hbk hlp hr] at hw
       simp only [hr] at hrm
       (have hWf := w8 @h0 @h5 @hb20 @h6 @hb1 @xX @hbk' @hlp; repeat' (first | refine zS ?_ | refine zI ?_ ?_ | refine zK (hst) ?_ | refine zK (hrm) ?_ | exact zF0 | refine zD fun hb => ?_ | exact zC | refine zT ?_ | fail))
       exact zu hw.symm
      | some j =>
       have hjb := remM_bd hr
       rw [ZW hlt hbk hlp hr] at hw
       simp only [hr] at hrm
       (have hWf := w8 @h0 @h5 @hb20 @h6 @hb1 @xX @hbk' @hlp; repeat' (first | refine zS ?_ | refine zI ?_ ?_ | refine zK (hst) ?_ | refine zK (hrm) ?_ | exact zF0 | refine zD fun hb => ?_ | exact zC | refine zT ?_ | fail))
       refine hK f _ (by omega) ⟨f, j, acc, rfl, by omega, by omega, by omega, hw, ?_⟩
       simp only [go_sem, simprocAttr, h0, h5, hb20, h6]
     | false =>
      have hwb := Qk (s := s) (k := k) (by omega)
      have hsz := VK (i := k) hwb.2
      have hwm : (s.extract k (xC s k)).size <= maxLen := by rw [hsz]; unfold maxLen; omega
      cases hd : digI (bAt s k) with
      | true =>
       obtain ⟨c3, c95⟩ := cls_dig hd
       have hp := Xl hlt (dig_wor hd)
       have e95 : (bAt s k != 95) = true := by simpa using c95
       (have hWf := w10 @h0 @h5 @hb20 @h6 @hb1 @xX @hbk' @hlp @c3 @e95; repeat' (first | refine zS ?_ | refine zI ?_ ?_ | refine zK (hst) ?_ | ((with_reducible apply xc); refine zG (xq _) ?_) | ((with_reducible apply xl); refine xi (xq _) ?_) | exact zF0 | refine zD fun hb => ?_ | exact zC | refine zT ?_ | fail))
       refine xk (fun n σ => ∃ g j : Nat, n = g /\ s.size <= g + j /\ k <= j /\ j <= s.size /\ ua s g j = xC s k /\ σ.t 0 = .s (.string s) /\ σ.t 5 = .bs 20 4 acc.length /\ σ.b 20 = some (.arr 234 4 (acc.map MTok.own)) /\ σ.t 6 = .s (.int .i64 k) /\ σ.t 7 = .s (.int .u8 (bAt s k)) /\ σ.t 9 = .bx 9 0 /\ σ.b 9 = some (.box [.s (.int .i64 0), .s (.int .i64 0), .s (.string ⟨#[]⟩), .s (.int .i64 0)]) /\ σ.t 10 = .s (.int .i64 j)) s.size ⟨s.size, k, rfl, by omega, by omega, by omega, rfl, ?_⟩ ?_
       ·simp only [go_sem, simprocAttr, h0, h5, hb20, h6, xX]
       ·rintro n σ ⟨g, j, rfl, hg, hkj, hj, hwj, g0, g5, gb20, g6, g7, g9, gb9, g10⟩ K'' hK''
        have hin : j < s.size /\ worI (bAt s j) = true \/ ¬ (j < s.size /\ worI (bAt s j) = true) := Decidable.em _
        rcases hin with ⟨hjl, hjw⟩ | hout
        ·obtain ⟨g, rfl⟩ : ∃ z, n = z + 1 := ⟨n - 1, by omega⟩
         have gb1 := ww hjl
         rw [Yn hjl hjw] at hwj
         (have hWf := w12 @g0 @g5 @gb20 @g6 @g7 @g9 @gb9 @g10 @gb1 @xX @vG @hjw; repeat' (first | refine zS ?_ | refine zI ?_ ?_ | ((with_reducible apply xc); refine zG (xq _) ?_) | ((with_reducible apply xl); refine xi (xq _) ?_) | exact zF0 | refine zD fun hb => ?_ | exact zC | refine zT ?_ | fail))
         refine hK'' g _ (by omega) ⟨g, j + 1, rfl, by omega, by omega, by omega, hwj, ?_⟩
         simp only [go_sem, simprocAttr, g0, g5, gb20, g6, g7, g9, gb9, g10, cast1]
        ·rw [U7 hout] at hwj
         subst hwj
         have hex : decide (((xC s k : Nat) : Int) < (s.size : Int)) = false /\ True /\ True \/ (decide (((xC s k : Nat) : Int) < (s.size : Int)) = true /\ worI (bAt s (xC s k)) = false /\ xC s k < s.size) := by
          by_cases q : xC s k < s.size
          ·exact .inr ⟨ww q, by cases h : worI (bAt s (xC s k)) with | false => rfl | true => exact absurd ⟨q, h⟩ hout, q⟩
          ·exact .inl ⟨uU q, trivial, trivial⟩
         rcases hex with ⟨x1, x2, x3⟩ | ⟨x1, x2, x3⟩
         all_goals
         have hT : tokM s k = match txtO (s.extract k (xC s k)).data.toList with
          | none => (zTok k, 0, 3)
          | some n => (⟨1, n, noB, k⟩, xC s k - k, 0) := by unfold tokM; rw [if_pos hd]; rfl
         cases ht : txtO (s.extract k (xC s k)).data.toList with
         | none =>
          rw [ht] at hT
          rw [lexF_bad' hlt hbk hlp hT (by decide)] at hw
          (have hWf := w15 @g0 @g5 @gb20 @g6 @g7 @g9 @gb9 @g10 @x1 @x2 @xX @vG @y3 @c3 @ht; repeat' (first | refine zS ?_ | refine zI ?_ ?_ | ((with_reducible apply xc); refine zG (xq _) ?_) | ((with_reducible apply xl); refine xi (xq _) ?_) | ((with_reducible apply xc); refine zG (wU _ hwm) ?_) | ((with_reducible apply xl); refine xi (wU _ hwm) ?_) | exact zF0 | refine zD fun hb => ?_ | exact zC | refine zT ?_ | fail))
          exact zu hw.symm
         | some n =>
          rw [ht] at hT
          rw [lexF_tok' hlt hbk hlp hT] at hw
          (have hWf := w15 @g0 @g5 @gb20 @g6 @g7 @g9 @gb9 @g10 @x1 @x2 @xX @vG @y3 @c3 @ht; repeat' (first | refine zS ?_ | refine zI ?_ ?_ | ((with_reducible apply xc); refine zG (xq _) ?_) | ((with_reducible apply xl); refine xi (xq _) ?_) | ((with_reducible apply xc); refine zG (wU _ hwm) ?_) | ((with_reducible apply xl); refine xi (wU _ hwm) ?_) | exact zF0 | refine zD fun hb => ?_ | exact zC | refine zT ?_ | fail))
          refine hK f _ (by omega) ⟨f, xC s k, acc ++ [⟨1, n, noB, k⟩], rfl, by omega, by omega, by simp; omega, ?_, ?_⟩
          ·rw [<- hw]; congr 1; omega
          ·simp only [go_sem, simprocAttr, g0, g5, gb20, g6, List.map_append, List.length_append, List.length_singleton, MTok.own_eq, noB_eq]
           all_goals trace_state
      | false =>
       cases hl : (lowI (bAt s k) || uppI (bAt s k)) with
       | true =>
        obtain ⟨c12, c95⟩ := cls_let hd hl
        have hp := Xl hlt (let_wor hl)
        have e95 : (bAt s k != 95) = true := by simpa using c95
        have ec : decide (clsI (bAt s k) > 0) = true := by simp; omega
        have ec3 : (clsI (bAt s k) == 3) = false := by rcases c12 with q | q <;> rw [q] <;> rfl
        (have hWf := w10 @h0 @h5 @hb20 @h6 @hb1 @xX @hbk' @hlp @ec @e95; repeat' (first | refine zS ?_ | refine zI ?_ ?_ | refine zK (hst) ?_ | ((with_reducible apply xc); refine zG (xq _) ?_) | ((with_reducible apply xl); refine xi (xq _) ?_) | exact zF0 | refine zD fun hb => ?_ | exact zC | refine zT ?_ | fail))
        refine xk (fun n σ => ∃ g j : Nat, n = g /\ s.size <= g + j /\ k <= j /\ j <= s.size /\ ua s g j = xC s k /\ σ.t 0 = .s (.string s) /\ σ.t 5 = .bs 20 4 acc.length /\ σ.b 20 = some (.arr 234 4 (acc.map MTok.own)) /\ σ.t 6 = .s (.int .i64 k) /\ σ.t 7 = .s (.int .u8 (bAt s k)) /\ σ.t 9 = .bx 9 0 /\ σ.b 9 = some (.box [.s (.int .i64 0), .s (.int .i64 0), .s (.string ⟨#[]⟩), .s (.int .i64 0)]) /\ σ.t 10 = .s (.int .i64 j)) s.size ⟨s.size, k, rfl, by omega, by omega, by omega, rfl, ?_⟩ ?_
        ·simp only [go_sem, simprocAttr, h0, h5, hb20, h6, xX]
        ·rintro n σ ⟨g, j, rfl, hg, hkj, hj, hwj, g0, g5, gb20, g6, g7, g9, gb9, g10⟩ K'' hK''
         have hin : j < s.size /\ worI (bAt s j) = true \/ ¬ (j < s.size /\ worI (bAt s j) = true) := Decidable.em _
         rcases hin with ⟨hjl, hjw⟩ | hout
         ·obtain ⟨g, rfl⟩ : ∃ z, n = z + 1 := ⟨n - 1, by omega⟩
          have gb1 := ww hjl
          rw [Yn hjl hjw] at hwj
          (have hWf := w12 @g0 @g5 @gb20 @g6 @g7 @g9 @gb9 @g10 @gb1 @xX @vG @hjw; repeat' (first | refine zS ?_ | refine zI ?_ ?_ | ((with_reducible apply xc); refine zG (xq _) ?_) | ((with_reducible apply xl); refine xi (xq _) ?_) | exact zF0 | refine zD fun hb => ?_ | exact zC | refine zT ?_ | fail))
          refine hK'' g _ (by omega) ⟨g, j + 1, rfl, by omega, by omega, by omega, hwj, ?_⟩
          simp only [go_sem, simprocAttr, g0, g5, gb20, g6, g7, g9, gb9, g10, cast1]
         ·rw [U7 hout] at hwj
          subst hwj
          have hex : decide (((xC s k : Nat) : Int) < (s.size : Int)) = false /\ True /\ True \/ (decide (((xC s k : Nat) : Int) < (s.size : Int)) = true /\ worI (bAt s (xC s k)) = false /\ xC s k < s.size) := by
           by_cases q : xC s k < s.size
           ·exact .inr ⟨ww q, by cases h : worI (bAt s (xC s k)) with | false => rfl | true => exact absurd ⟨q, h⟩ hout, q⟩
           ·exact .inl ⟨uU q, trivial, trivial⟩
          rcases hex with ⟨x1, x2, x3⟩ | ⟨x1, x2, x3⟩
          all_goals
          have hT := tokM_word hd hl
          by_cases hz : u9 (s.extract k (xC s k)) = 0
          ·have ez : (u9 (s.extract k (xC s k)) == 0) = true := by simpa using hz
           rw [if_pos hz, if_pos hz] at hT
           rw [lexF_bad' hlt hbk hlp hT (by decide)] at hw
           (have hWf := w15 @g0 @g5 @gb20 @g6 @g7 @g9 @gb9 @g10 @x1 @x2 @xX @vG @y3 @ec3 @ez; repeat' (first | refine zS ?_ | refine zI ?_ ?_ | ((with_reducible apply xc); refine zG (xq _) ?_) | ((with_reducible apply xl); refine xi (xq _) ?_) | ((with_reducible apply xc); refine zG (Xc _ hwm) ?_) | ((with_reducible apply xl); refine xi (Xc _ hwm) ?_) | exact zF0 | refine zD fun hb => ?_ | exact zC | refine zT ?_ | fail))
           exact zu hw.symm
          ·have ez : (u9 (s.extract k (xC s k)) == 0) = false := by simpa using hz
           rw [if_neg hz, if_neg hz] at hT
           rw [lexF_tok' hlt hbk hlp hT] at hw
           (have hWf := w15 @g0 @g5 @gb20 @g6 @g7 @g9 @gb9 @g10 @x1 @x2 @xX @vG @y3 @ec3 @ez; repeat' (first | refine zS ?_ | refine zI ?_ ?_ | ((with_reducible apply xc); refine zG (xq _) ?_) | ((with_reducible apply xl); refine xi (xq _) ?_) | ((with_reducible apply xc); refine zG (Xc _ hwm) ?_) | ((with_reducible apply xl); refine xi (Xc _ hwm) ?_) | exact zF0 | refine zD fun hb => ?_ | exact zC | refine zT ?_ | fail))
           refine hK f _ (by omega) ⟨f, xC s k, acc ++ [⟨u9 (s.extract k (xC s k)), 0, s.extract k (xC s k), k⟩], rfl, by omega, by omega, by simp; omega, ?_, ?_⟩
           ·rw [<- hw]; congr 1; omega
           ·simp only [go_sem, simprocAttr, g0, g5, gb20, g6, List.map_append, List.length_append, List.length_singleton, MTok.own_eq]
            all_goals trace_state
       | false =>
        have ec := cls_els hd hl
        by_cases hq : bAt s k = 34
        ·have e34 : (bAt s k == 34) = true := by simpa using hq
         have hE := c_l02End s k hs hlt
         have hT : tokM s k = match quoE s (k + 1) with
          | none => (zTok k, 0, 4)
          | some j => match unqO (s.extract k (j + 1)).data.toList with
           | none => (zTok k, 0, 4)
           | some t => (⟨2, 0, bs t, k⟩, j + 1 - k, 0) := by
          unfold tokM
          rw [hq, if_neg (by decide), if_neg (by decide), if_neg (by simp), if_pos rfl]
          rfl
         cases hqq : quoE s (k + 1) with
         | none =>
          simp only [hqq] at hE hT
          rw [lexF_bad' hlt hbk hlp hT (by decide)] at hw
          (have hWf := w10 @h0 @h5 @hb20 @h6 @hb1 @xX @hbk' @hlp @ec @e34; repeat' (first | refine zS ?_ | refine zI ?_ ?_ | refine zK (hst) ?_ | ((with_reducible apply xc); refine zG (xq _) ?_) | ((with_reducible apply xl); refine xi (xq _) ?_) | refine zK (hE) ?_ | exact zF0 | refine zD fun hb => ?_ | exact zC | refine zT ?_ | fail))
          exact zu hw.symm
         | some j =>
          have hkb := Zj s _ _ j hqq
          have hsz := VK (s := s) (i := k) (j := j + 1) (by omega)
          have hum : (s.extract k (j + 1)).size <= 9000000000 := by rw [hsz]; omega
          simp only [hqq] at hE hT
          cases hu : unqO (s.extract k (j + 1)).data.toList with
          | none =>
           simp only [hu] at hT
           rw [lexF_bad' hlt hbk hlp hT (by decide)] at hw
           (have hWf := w12 @h0 @h5 @hb20 @h6 @hb1 @xX @hbk' @hlp @ec @e34 @y3 @hu; repeat' (first | refine zS ?_ | refine zI ?_ ?_ | refine zK (hst) ?_ | ((with_reducible apply xc); refine zG (xq _) ?_) | ((with_reducible apply xl); refine xi (xq _) ?_) | refine zK (hE) ?_ | ((with_reducible apply xc); refine zG (wV _ hum) ?_) | ((with_reducible apply xl); refine xi (wV _ hum) ?_) | exact zF0 | refine zD fun hb => ?_ | exact zC | refine zT ?_ | fail))
           exact zu hw.symm
          | some t =>
           simp only [hu] at hT
           rw [lexF_tok' hlt hbk hlp hT] at hw
           (have hWf := w12 @h0 @h5 @hb20 @h6 @hb1 @xX @hbk' @hlp @ec @e34 @y3 @hu; repeat' (first | refine zS ?_ | refine zI ?_ ?_ | refine zK (hst) ?_ | ((with_reducible apply xc); refine zG (xq _) ?_) | ((with_reducible apply xl); refine xi (xq _) ?_) | refine zK (hE) ?_ | ((with_reducible apply xc); refine zG (wV _ hum) ?_) | ((with_reducible apply xl); refine xi (wV _ hum) ?_) | exact zF0 | refine zD fun hb => ?_ | exact zC | refine zT ?_ | fail))
           refine hK f _ (by omega) ⟨f, j + 1, acc ++ [⟨2, 0, bs t, k⟩], rfl, by omega, by omega, by simp; omega, ?_, ?_⟩
           ·rw [<- hw]; congr 1; omega
           ·simp only [go_sem, simprocAttr, h0, h5, hb20, h6, List.map_append, List.length_append, List.length_singleton, MTok.own_eq, cast1]
            all_goals trace_state
        ·have e34 : (bAt s k == 34) = false := by simpa using hq
         by_cases hv : bAt s k = 39 /\ k + 1 < s.size /\ lowI (bAt s (k + 1)) = true
         ·obtain ⟨h39, hk1, hlo⟩ := hv
          have e39 : (bAt s k == 39) = true := by simpa using h39
          have e4 := ww hk1
          rw [cast1] at e4
          have e1 := cls_low _ _ hlo
          have hlb : 97 <= bAt s (k + 1) /\ bAt s (k + 1) <= 122 := by unfold lowI at hlo; simpa using hlo
          have hT : tokM s k = (⟨5, bAt s (k + 1) - 97, noB, k⟩, 2, 0) := by
           unfold tokM
           rw [h39, if_neg (by decide), if_neg (by decide), if_pos ⟨rfl, hk1, hlo⟩]
          rw [lexF_tok' hlt hbk hlp hT] at hw
          (have hWf := w14 @h0 @h5 @hb20 @h6 @hb1 @xX @hbk' @hlp @ec @e34 @e39 @e4 @e1 @y3; repeat' (first | refine zS ?_ | refine zI ?_ ?_ | refine zK (hst) ?_ | ((with_reducible apply xc); refine zG (xq _) ?_) | ((with_reducible apply xl); refine xi (xq _) ?_) | exact zF0 | refine zD fun hb => ?_ | exact zC | refine zT ?_ | fail))
          refine hK f _ (by omega) ⟨f, k + 2, acc ++ [⟨5, bAt s (k + 1) - 97, noB, k⟩], rfl, by omega, by omega, by simp; omega, hw, ?_⟩
          simp only [go_sem, simprocAttr, h0, h5, hb20, h6, List.map_append, List.length_append, List.length_singleton, MTok.own_eq, cast2, noB_eq]
          all_goals trace_state
         ·have hT : tokM s k = if yG s k = noB then (zTok k, 0, 2) else (⟨6, 0, yG s k, k⟩, (yG s k).size, 0) := by
           simp only [Bool.or_eq_false_iff] at hl
           unfold tokM
           rw [if_neg (by rw [hd]; simp), if_neg (by rw [hl.1, hl.2]; simp), if_neg hv, if_neg hq]
          have key : ∀ b : Bool, ((yG s k).toList == []) = b -> (b = true ↔ yG s k = noB) := by
           rintro b rfl
           rw [<- lit0, Um]; simp; rfl
          have hv39 : (bAt s k == 39) = false \/ ((bAt s k == 39) = true /\ decide (((k : Nat) : Int) + 1 < (s.size : Int)) = false) \/ ((bAt s k == 39) = true /\ decide (((k : Nat) : Int) + 1 < (s.size : Int)) = true /\ k + 1 < s.size /\ (clsI (bAt s (k + 1)) == 1) = false) := by
           by_cases h39 : bAt s k = 39
           ·by_cases hk1 : k + 1 < s.size
            ·exact .inr (.inr ⟨by simpa using h39, by have := ww hk1; rwa [cast1] at this, hk1, cls_low _ _ (by cases h : lowI (bAt s (k + 1)) with | false => rfl | true => exact absurd ⟨h39, hk1, h⟩ hv)⟩)
            ·exact .inr (.inl ⟨by simpa using h39, by have := uU hk1; rwa [cast1] at this⟩)
           ·exact .inl (by simpa using h39)
          have hsn := c_l02Sign s k hs hlt
          cases hz : ((yG s k).toList == []) with
          | true =>
           rw [if_pos ((key _ hz).1 rfl)] at hT
           rw [lexF_bad' hlt hbk hlp hT (by decide)] at hw
           rcases hv39 with e39 | ⟨e39, e4⟩ | ⟨e39, e4, hk1, e1⟩
           ·(have hWf := w13 @h0 @h5 @hb20 @h6 @hb1 @xX @hbk' @hlp @ec @e34 @e39 @hz @lit0; repeat' (first | refine zS ?_ | refine zI ?_ ?_ | refine zK (hst) ?_ | ((with_reducible apply xc); refine zG (xq _) ?_) | ((with_reducible apply xl); refine xi (xq _) ?_) | refine zK (hsn) ?_ | exact zF0 | refine zD fun hb => ?_ | exact zC | refine zT ?_ | fail))
            exact zu hw.symm
           ·(have hWf := w14 @h0 @h5 @hb20 @h6 @hb1 @xX @hbk' @hlp @ec @e34 @e39 @e4 @hz @lit0; repeat' (first | refine zS ?_ | refine zI ?_ ?_ | refine zK (hst) ?_ | ((with_reducible apply xc); refine zG (xq _) ?_) | ((with_reducible apply xl); refine xi (xq _) ?_) | refine zK (hsn) ?_ | exact zF0 | refine zD fun hb => ?_ | exact zC | refine zT ?_ | fail))
            exact zu hw.symm
           ·(have hWf := w16 @h0 @h5 @hb20 @h6 @hb1 @xX @hbk' @hlp @ec @e34 @e39 @e4 @e1 @y3 @hz @lit0; repeat' (first | refine zS ?_ | refine zI ?_ ?_ | refine zK (hst) ?_ | ((with_reducible apply xc); refine zG (xq _) ?_) | ((with_reducible apply xl); refine xi (xq _) ?_) | refine zK (hsn) ?_ | exact zF0 | refine zD fun hb => ?_ | exact zC | refine zT ?_ | fail))
            exact zu hw.symm
          | false =>
           have hne : yG s k ≠ noB := fun q => by have := (key _ hz).2 q; cases this
           rw [if_neg hne] at hT
           rw [lexF_tok' hlt hbk hlp hT] at hw
           obtain ⟨b1, b2⟩ := (Xu s k).resolve_left hne
           rcases hv39 with e39 | ⟨e39, e4⟩ | ⟨e39, e4, hk1, e1⟩
           ·(have hWf := w13 @h0 @h5 @hb20 @h6 @hb1 @xX @hbk' @hlp @ec @e34 @e39 @hz @lit0; repeat' (first | refine zS ?_ | refine zI ?_ ?_ | refine zK (hst) ?_ | ((with_reducible apply xc); refine zG (xq _) ?_) | ((with_reducible apply xl); refine xi (xq _) ?_) | refine zK (hsn) ?_ | exact zF0 | refine zD fun hb => ?_ | exact zC | refine zT ?_ | fail))
            refine hK f _ (by omega) ⟨f, k + (yG s k).size, acc ++ [⟨6, 0, yG s k, k⟩], rfl, by omega, by omega, by simp; omega, hw, ?_⟩
            simp only [go_sem, simprocAttr, h0, h5, hb20, h6, List.map_append, List.length_append, List.length_singleton, MTok.own_eq, Int.natCast_add]
           ·(have hWf := w14 @h0 @h5 @hb20 @h6 @hb1 @xX @hbk' @hlp @ec @e34 @e39 @e4 @hz @lit0; repeat' (first | refine zS ?_ | refine zI ?_ ?_ | refine zK (hst) ?_ | ((with_reducible apply xc); refine zG (xq _) ?_) | ((with_reducible apply xl); refine xi (xq _) ?_) | refine zK (hsn) ?_ | exact zF0 | refine zD fun hb => ?_ | exact zC | refine zT ?_ | fail))
            refine hK f _ (by omega) ⟨f, k + (yG s k).size, acc ++ [⟨6, 0, yG s k, k⟩], rfl, by omega, by omega, by simp; omega, hw, ?_⟩
            simp only [go_sem, simprocAttr, h0, h5, hb20, h6, List.map_append, List.length_append, List.length_singleton, MTok.own_eq, Int.natCast_add]
           ·(have hWf := w16 @h0 @h5 @hb20 @h6 @hb1 @xX @hbk' @hlp @ec @e34 @e39 @e4 @e1 @y3 @hz @lit0; repeat' (first | refine zS ?_ | refine zI ?_ ?_ | refine zK (hst) ?_ | ((with_reducible apply xc); refine zG (xq _) ?_) | ((with_reducible apply xl); refine xi (xq _) ?_) | refine zK (hsn) ?_ | exact zF0 | refine zD fun hb => ?_ | exact zC | refine zT ?_ | fail))
            refine hK f _ (by omega) ⟨f, k + (yG s k).size, acc ++ [⟨6, 0, yG s k, k⟩], rfl, by omega, by omega, by simp; omega, hw, ?_⟩
            simp only [go_sem, simprocAttr, h0, h5, hb20, h6, List.map_append, List.length_append, List.length_singleton, MTok.own_eq, Int.natCast_add]
   ·have hb1 := uU hlt
    rw [ZV (by omega)] at hw
    (have hWf := w5 @h0 @h5 @hb20 @h6 @hb1; repeat' (first | refine zS ?_ | refine zI ?_ ?_ | exact zF0 | refine zD fun hb => ?_ | exact zC | refine zT ?_ | fail))
    rw [<- hw]
    exact .inl rfl
 ·have hM : lexM s = ([], 1, 0) := by unfold lexM; rw [if_neg h4]
  rw [hM]
  refine FI PM Tryz.func127 Tryz.ntmps127 [] rfl rfl ?_
  (have hWf := f0; repeat' (first | refine zS ?_ | refine zI ?_ ?_ | exact zF0 | refine zD fun hb => ?_ | exact zC | refine zT ?_ | fail))
  exact zu rfl
end Go.Proofs.YtgcdbmcoendcdaaGreat
namespace Go.Proofs.YtgcdbmcoendcdaaGreat
open Go.RowKit Arb
theorem Rel.closeRC {x : Cx} {g : Gh} {σ : St} {a : Act} {w : World} (h : Rel x g σ a w) {id e k i c : Nat} {rows : List (List D)} {rr : List D} {r d : D} {ob : Prop} {nm : Nat} (hb : σ.b id = some (.rw e k rows i rr)) (hc : rr[c]? = some r) (hf : fdC σ r = some (ob, d)) (ho : ob) (hr : idC r = some nm) (hne : nm ≠ id) :
  ∃ g', Rel x g' ((σ.sc (pOut [nm]) (pOut [nm])).setB id (.rw e k rows i ((rr.map (scC (pOut [nm]))).set c d))) a w := by
 obtain ⟨b, cs, h1, h2, h3, h4, h5, h6, h7, h8, h9, h10, h11⟩ := h.ob id _ hb
 let π : Pos -> Pos := fun p => match p with
  | .root m => if m = nm then .cell b (i * k + c) else .root m
  | p => p
 have ev : Ev (fun _ => True) π (pOut [nm]) (pOut [nm]) g ⟨g.β, g.κ, fun c => (g.up c).map π, g.S⟩ w w := by
  refine ⟨⟨fun c hc => ⟨hc, rfl⟩, fun c p hc _ => ⟨by show (g.up c).map π = _; rw [hc]; rfl, rfl⟩, fun c p o _ _ => ⟨trivial, rfl⟩⟩, fun m _ => ⟨rfl, rfl⟩, fun m hm => ⟨hm, trivial, ?_⟩⟩
  exact if_neg (xu hm nm (by simp))
 have hR := h.ev ev (Below.refl _ _) (fun b _ _ => rfl) (fun b _ hs => .inl hs) h.new (fun c p hc => by
  obtain ⟨p', hp', -⟩ := Option.map_eq_some_iff.1 (show (g.up c).map π = some p from hc)
  exact h.own c p' hp')
 refine ⟨_, hR.setB (id := id) (o := .rw e k rows i ((rr.map (scC (pOut [nm]))).set c d)) ⟨b, cs, h1, ?_, h3, h4, h5, h6, h7, h8, by rw [List.length_set, List.length_map]; exact h9, fun j d' hj => ?_, fun i' j row y r1 r2 r3 => Rep.move ev.toMv (h11 i' j row y r1 r2 r3) (fun _ _ => trivial)⟩ (h.par id _ hb)⟩
 ·show (g.up b).map π = _
  rw [h2]
  exact congrArg some (if_neg (fun q => hne q.symm))
 ·rw [List.getElem?_set] at hj
  split at hj
  ·rename_i e'; subst e'
   split at hj
   ·injection hj with hj
    subst hj
    rcases vS h hf ho (h10 c r hc) with ⟨q1, -⟩ | ⟨m, q1, q2⟩
    ·rw [hr] at q1; cases q1
    ·rw [hr] at q1; injection q1 with q1; subst q1
     have := Rep.move ev.toMv q2 (fun _ _ => trivial)
     have e2 : π (.root nm) = .cell b (i * k + c) := if_pos rfl
     rw [Option.map_some, e2] at this
     exact this.rc
   ·cases hj
  ·rw [List.getElem?_map] at hj
   obtain ⟨d0, r1, rfl⟩ := Option.map_eq_some_iff.1 hj
   exact (h10 j d0 r1).ev ev (fun _ _ => trivial)
theorem opqR_deep (us : Nat -> Value) (rr : List D) (h : rr.all yS = true) : opqR us rr = rr := by
 refine List.ext_getElem? fun j => ?_
 rw [opqR, List.getElem?_mapIdx]
 cases hj : rr[j]? with
 | none => rfl
 | some d =>
  have := List.all_eq_true.1 h d (List.mem_of_getElem? hj)
  show some (if yS d = true then d else _) = _
  rw [if_pos this]
theorem Q2 {M : Md} {N : Nat} {σ : St} (id c nm : Nat) {e k i : Nat} {rows : List (List D)} {rr : List D} {r d : D} {ob : Prop} (hb : σ.b id = some (.rw e k rows i rr)) (hc : rr[c]? = some r) (hf : fdC σ r = some (ob, d)) (ho : ob) (hr : idC r = some nm) (hne : nm ≠ id) : Wk M N σ ((σ.sc (pOut [nm]) (pOut [nm])).setB id (.rw e k rows i ((rr.map (scC (pOut [nm]))).set c d))) := fun x g a w _ _ h => h.closeRC hb hc hf ho hr hne
theorem Q3 {M : Md} {N : Nat} {σ : St} (id : Nat) {e k i : Nat} {rows : List (List D)} {rr : List D} (hb : σ.b id = some (.rw e k rows i rr)) (h : rr.all yS = true) : Wk M N σ (σ.setB id (.arr e k (rows.set i rr))) := fun x g a w _ _ hr => by
 obtain ⟨us, q⟩ := hr.closeR hb
 rw [opqR_deep us rr h] at q
 exact ⟨g, q⟩
theorem FCon.bareP {P : Program} {f : FuncId} {args : List D} {x : MProgram} {c a : Value} (h : FCon P f args (fun r _ => r = .tup [.ag x.own, .s c, .s a] \/ (x = ⟨[], []⟩ /\ r = .tup [.ag [.nil, .nil], .s c, .s a]))) : FCon P f args (fun r _ => r = .tup [.ag x.own, .s c, .s a]) := h.wk fun r o e' => by
 rcases e' with rfl | ⟨rfl, rfl⟩
 ·exact ⟨_, rfl, fun _ _ _ q => q⟩
 ·refine ⟨_, rfl, fun g w v q => ?_⟩
  obtain ⟨us, rfl, n1, n2⟩ := q
  refine ⟨us, rfl, by simpa using n1, fun m x u hx hu => ?_⟩
  match m, hx with
  | 0, hx =>
   obtain rfl := Option.some.inj hx
   obtain ⟨vs, rfl, m1, m2⟩ := n2 0 _ u rfl hu
   refine ⟨vs, rfl, m1, fun l y u' hy hu' => ?_⟩
   match l, hy with
   | 0, hy =>
    obtain rfl := Option.some.inj hy
    exact Rep.nil_osl _ _ (m2 0 .nil u' rfl hu')
   | 1, hy =>
    obtain rfl := Option.some.inj hy
    exact Rep.nil_osl _ _ (m2 1 .nil u' rfl hu')
  | m + 1, hx => exact n2 (m + 1) x u hx hu
noncomputable def wX (s : ByteArray) : MProgram × Int × Int := if (lexM s).2.1 = 0 then parT (lexM s).1 s.size else (⟨[], []⟩, (lexM s).2.1, (lexM s).2.2)
theorem V4 (s : ByteArray) (hs : s.size <= 9223372036854775807) (h : ¬ (lexM s).2.1 = 0) : FCon Tryz.prog 54 [.s (.string s)] (fun r _ => r = .tup [.ag [.nil, .nil], .s (.int .i64 (lexM s).2.1), .s (.int .i64 (lexM s).2.2)]) := by
 have hl := UI s hs
 unfold lexD at hl
 rcases hq : lexM s with ⟨T, c, a⟩
 rw [hq] at hl h
 simp only at hl h ⊢
 have f0 : (c != 0) = true := by simpa using h
 refine FI PM Tryz.func54 Tryz.ntmps54 [(8, 5, [3, 4], [(3, 0), (3, 1), (4, 0), (4, 1)], (lin [3, 4] [0, 1, 2, 3, 4])), (13, 11, [9], [(9, 1), (9, 2), (9, 3), (9, 4), (9, 5), (9, 6), (9, 7), (9, 8)], (lin [9] [0, 1, 2, 3, 4, 5, 6, 7, 8, 9, 10]))] rfl rfl ?_
 (have hWf := w1 @f0; repeat' (first | refine zS ?_ | refine zI ?_ ?_ | ((with_reducible apply xc); refine xm (hl) ?_; rintro _ _ rfl) | refine zU (hl) ?_ | exact zF0 | refine zD fun hb => ?_ | exact zC | refine zT ?_ | fail))
 all_goals rfl
theorem types_go {T : List MTok} {e : Int} {n : Nat} {l : List MType} {s : PS} (h : isS T e s (⟨#[116, 121, 112, 101]⟩ : ByteArray) = true) {t : MType} {s1 : PS} (h1 : zh T e (advS s) = (t, s1)) : yI T e (n + 1) l s = yI T e n (l ++ [t]) s1 := by
 conv => lhs; unfold yI
 rw [if_pos h, h1]
theorem xa2 {T : List MTok} {e : Int} {n : Nat} {l : List MType} {s : PS} (h : isS T e s (⟨#[116, 121, 112, 101]⟩ : ByteArray) = false) : yI T e n l s = (l, s) := by
 cases n with
 | zero => rfl
 | succ n => unfold yI; rw [if_neg (by rw [h]; decide)]
theorem eNil (t : ET) (hs : t.size <= 1000000) : FCon Tryz.prog 24 [.nil, .ag (eV t)] (fun r o => r = .osl 55 6 ((Arb.lay EI.node 0 t).map MNode.own) /\ o = [.un, .ag [.un, .un, .un, .un, .un, .un, .un]]) := by
 have h := (c_l03Lay t [] (by simpa using hs)).argNil
 simp only [List.length_nil, List.nil_append] at h
 exact h
def vC (ts : List MType) : Bool := ts.any fun t => decide (t.cons.length > 8)
theorem many_succ (ts : List MType) (k : Nat) (h : k < ts.length) : vC (ts.take (k + 1)) = (vC (ts.take k) || decide (ts[k].cons.length > 8)) := by
 unfold vC; rw [XR _ _ h]
theorem parse_ok (s : ByteArray) (hs : s.size <= 9223372036854775807) {T : List MTok} {a0 : Int} (hq : lexM s = (T, 0, a0)) : FCon Tryz.prog 54 [.s (.string s)] (fun r _ => r = .tup [.ag (parT T s.size).1.own, .s (.int .i64 (parT T s.size).2.1), .s (.int .i64 (parT T s.size).2.2)] \/ ((parT T s.size).1 = ⟨[], []⟩ /\ r = .tup [.ag [.nil, .nil], .s (.int .i64 (parT T s.size).2.1), .s (.int .i64 (parT T s.size).2.2)])) := by
 have hl := UI s hs
 have hA := ZY s
 unfold lexD at hl
 rw [hq] at hl hA
 simp only at hl hA
 obtain ⟨hT4, hTn⟩ := hA
 have hT : T.length <= 10000 := by omega
 rcases hq1 : yI T s.size (T.length + 1) [] ⟨0, 0, 0, [], []⟩ with ⟨ts9, s9⟩
 rcases hq2 : uC T s.size 101 s9 with ⟨ea, s2⟩
 have hpar : parT T s.size = if (if s2.code = 0 /\ s2.i < T.length then xx T s.size s2 7 else s2).code ≠ 0 then (⟨[], []⟩, (if s2.code = 0 /\ s2.i < T.length then xx T s.size s2 7 else s2).code, (if s2.code = 0 /\ s2.i < T.length then xx T s.size s2 7 else s2).at_)
   else if ea.size > 600 \/ ts9.length > 8 \/ vC ts9 = true then (⟨[], []⟩, 10, 0) else (⟨ts9, Arb.lay EI.node 0 ea⟩, 0, 0) := by
  unfold parT WR
  rw [hq1]
  simp only
  rw [hq2]
  rfl
 obtain ⟨PR, hPR⟩ : ∃ PR, PR = parT T s.size := ⟨_, rfl⟩
 rw [<- hPR]
 rw [hpar] at hPR
 clear hpar
 refine FI PM Tryz.func54 Tryz.ntmps54 [(8, 5, [3, 4], [(3, 0), (3, 1), (4, 0), (4, 1)], (lin [3, 4] [0, 1, 2, 3, 4])), (13, 11, [9], [(9, 1), (9, 2), (9, 3), (9, 4), (9, 5), (9, 6), (9, 7), (9, 8)], (lin [9] [0, 1, 2, 3, 4, 5, 6, 7, 8, 9, 10]))] rfl rfl ?_
 iterate 3 (refine xA ?_; simp only [go_sem, simprocAttr]; (have hWf := f0; repeat' (first | refine zY ?_ | refine zI ?_ ?_ | ((with_reducible apply xc); refine xm (hl) ?_; rintro _ _ rfl) | refine zU (hl) ?_ | exact zF1 | refine zD fun hb => ?_ | exact zC | refine zT ?_ | fail)))
 refine ze 1016 (.arr 234 4 (T.map MTok.own)) (by simp only [go_sem, simprocAttr]) rfl ?_
 iterate 4 (refine xA ?_; simp only [go_sem, simprocAttr, wb]; (have hWf := w1 @wb; repeat' (first | refine zY ?_ | refine zI ?_ ?_ | exact zF1 | refine zD fun hb => ?_ | exact zC | refine zT ?_ | fail)))
 refine zc 29 5 777 (row := [.sl 4 (T.map MTok.enc), .s (.int .i64 0), .s (.int .i64 s.size), .s (.int .i64 0), .s (.int .i64 0), .nil, .nil]) 3 1 (by simp only [go_sem, simprocAttr, wb]) rfl (by decide) rfl (ze 777 (.arr 3 1 []) (by simp only [go_sem, simprocAttr]) rfl (zc 29 6 7000029 (row := [.sl 4 (T.map MTok.enc), .s (.int .i64 0), .s (.int .i64 s.size), .s (.int .i64 0), .s (.int .i64 0), .sl 1 [], .nil]) 9 1 (by simp only [go_sem, simprocAttr]) rfl (by decide) rfl (zc 9 0 888 (row := [.nil, .nil]) 63 3 (by simp only [go_sem, simprocAttr]) rfl (by decide) rfl ?_)))
 (refine xA ?_; simp only [go_sem, simprocAttr, wb]; (have hWf := w1 @wb; repeat' (first | refine zY ?_ | refine zI ?_ ?_ | exact zF1 | refine zD fun hb => ?_ | exact zC | refine zT ?_ | fail)))
 refine xk (fun n σ => ∃ (j : Nat) (ts : List MType) (s' : PS), n = T.length - s'.i /\ T.length - s'.i < j /\ WF T s' /\ ts.length <= s'.i /\ yI T s.size j ts s' = (ts9, s9) /\ σ.t 2 = .bx 2 0 /\ σ.b 2 = some (.box [.nil, .nil]) /\ σ.t 3 = .s (.int .i64 0) /\ σ.t 4 = .s (.int .i64 0) /\ σ.t 5 = .sl 4 (T.map MTok.enc) /\ σ.t 8 = .bx 29 0 /\ σ.b 29 = some (.box [.sl 4 (T.map MTok.enc), .s (.int .i64 s'.i), .s (.int .i64 s.size), .s (.int .i64 s'.code), .s (.int .i64 s'.at_), .sl 1 (s'.vars.map iE), .bs 7000029 1 s'.seen.length]) /\ σ.b 7000029 = some (.arr 9 1 (s'.seen.map stE)) /\ σ.t 9 = .bx 9 0 /\ σ.b 9 = some (.box [.bs 888 3 ts.length, .nil]) /\ σ.b 888 = some (.arr 63 3 (ts.map MType.own))) T.length ⟨T.length + 1, [], ⟨0, 0, 0, [], []⟩, rfl, by show T.length - 0 < _; omega, ⟨Nat.zero_le _, Nat.le_refl _⟩, Nat.zero_le _, hq1, ?_⟩ ?_
 ·simp only [go_sem, simprocAttr, List.map_nil]
  done
 ·rintro m σ ⟨j, ts, s', rfl, hj, hw, htl, hap, g2, g2b, g3, g4, g5, g8, g29, g7, g9, g9b, g888⟩ K' hK
  have his := xw T s.size s' (⟨#[116, 121, 112, 101]⟩ : ByteArray)
  have hwi := hw.1
  rw [xg] at his
  cases hty : isS T s.size s' (⟨#[116, 121, 112, 101]⟩ : ByteArray) with
  | true =>
   obtain ⟨j, rfl⟩ : ∃ q, j = q + 1 := ⟨j - 1, by omega⟩
   have hlt := (xt hty (xa (l := [116, 121, 112, 101]) (by simp))).2
   rw [hty] at his
   have htc := c_l03Type T s.size hT (advS s') hlt
   have bt := type_bd (T := T) (e := s.size) (advS s')
   have vt := type_seen (T := T) (e := s.size) (advS s')
   rcases hqt : zh T s.size (advS s') with ⟨t, s1⟩
   rw [hqt] at htc bt vt
   rw [types_go hty hqt] at hap
   simp only at htc bt vt
   have hge := bt.1
   have hle := bt.2 hlt
   rw [yg] at hge
   have hown := MType.own_eq t
   have w1 : WF T s1 := ⟨hle, by rw [vt]; show s'.seen.length <= _; have := hw.2; omega⟩
   unfold advS at htc
   rw [hown, xb, xb] at htc
   (have hWf := w14 @g2 @g2b @g3 @g4 @g5 @g8 @g29 @g7 @g9 @g9b @g888 @wb @xe @xd; repeat' (first | refine zS ?_ | refine zI ?_ ?_ | refine zK (his) ?_ | refine zX (htc) ?_ | ((with_reducible apply xc); refine xm (htc) ?_; rintro _ _ ⟨rfl, rfl⟩) | exact zF0 | refine zD fun hb => ?_ | exact zC | refine zT ?_ | fail))
   refine hK (T.length - s1.i) _ (by omega) ⟨j, ts ++ [t], s1, rfl, by omega, w1, by rw [List.length_append]; show ts.length + 1 <= _; omega, hap, ?_⟩
   simp only [go_sem, simprocAttr, g2, g2b, g3, g4, g5, g8, g29, g7, g9, g9b, g888, wb, xe, xd, List.map_append, List.length_append, hown]
   done
  | false =>
   rw [hty] at his
   rw [xa2 hty] at hap
   injection hap with e1 e2
   subst e1 e2
   have hr := c_l03Expr (e := s.size) hT hTn 101 (Nat.le_refl _) s' hw
   have mr := WJ (T := T) (e := s.size) 101 s'
   rw [show (101 : Int) - ((101 : Nat) : Int) = 0 by rfl] at hr
   rw [hq2] at hr mr
   obtain ⟨mr, hsz⟩ := mr
   have w2 := mr.wf hw
   simp only at hr mr hsz w2
   have hwi2 := w2.1
   obtain ⟨ek, el⟩ := ea
   rw [xn, xb, xb] at hr
   clear hq1 hq2
   by_cases z : s2.code = 0
   ·have f0 := kT z
    have f1 : (s2.code != 0) = false := by rw [z]; rfl
    by_cases zi : s2.i < T.length
    ·have hlt' : decide ((s2.i : Int) < (T.length : Int)) = true := by simpa using zi
     have hf := yz T s.size s2 7
     rw [if_pos (c := s2.code = 0 /\ s2.i < T.length) ⟨z, zi⟩] at hPR
     have hc3 : (xx T s.size s2 7).code = 7 := by unfold xx; rw [if_pos z]
     generalize xx T s.size s2 7 = s3 at *
     rw [if_pos (by rw [hc3]; decide)] at hPR
     subst hPR
     have f3 : (s3.code != 0) = true := by rw [hc3]; rfl
     rw [xb, xb] at hf
     (have hWf := w17 @g2 @g2b @g3 @g4 @g5 @g8 @g29 @g7 @g9 @g9b @g888 @wb @xe @xd @f0 @hlt' @f3; repeat' (first | refine zS ?_ | refine zI ?_ ?_ | refine zK (his) ?_ | refine zH hr ?_ | refine zH hf ?_ | exact zF0 | refine zD fun hb => ?_ | exact zC | refine zT ?_ | fail))
     all_goals exact .inr ⟨rfl, rfl⟩
    ·have hlt' : decide ((s2.i : Int) < (T.length : Int)) = false := by simpa using zi
     rw [if_neg (c := s2.code = 0 /\ s2.i < T.length) (fun h => zi h.2), if_neg (c := s2.code ≠ 0) (fun q => q z)] at hPR
     have hlay := eNil (.mk ek el) (by omega)
     have hln : (Arb.lay EI.node 0 (.mk ek el)).length = (Arb.mk ek el : ET).size := Arb.lay_len _ _
     rw [xn] at hlay
     (have hWf := w17 @g2 @g2b @g3 @g4 @g5 @g8 @g29 @g7 @g9 @g9b @g888 @wb @xe @xd @f0 @f1 @hlt'; repeat' (first | refine zS ?_ | refine zI ?_ ?_ | refine zK (his) ?_ | refine zH hr ?_ | refine zH hlay ?_ | exact zF0 | refine zD fun hb => ?_ | exact zC | refine zT ?_ | fail))
     generalize hm0 : (decide (((Arb.lay EI.node 0 (.mk ek el)).length : Int) > 600) || decide ((ts.length : Int) > 8)) = m0
     refine Vi (fun n σ => ∃ k : Nat, k <= ts.length /\ n = ts.length - k /\ σ.t 2 = .bx 2 0 /\ σ.b 2 = some (.box [.nil, .nil]) /\ σ.t 3 = .s (.int .i64 0) /\ σ.t 4 = .s (.int .i64 0) /\ σ.t 9 = .bx 9 0 /\ σ.b 9 = some (.box [.bs 888 3 ts.length, .bs 1080 6 (Arb.lay EI.node 0 (.mk ek el)).length]) /\ σ.b 888 = some (.arr 63 3 (ts.map MType.own)) /\ σ.b 1080 = some (.arr 55 6 ((Arb.lay EI.node 0 (.mk ek el)).map MNode.own)) /\ σ.t 11 = .s (.bool (m0 || vC (ts.take k))) /\ σ.t 93 = .bs 888 3 ts.length /\ σ.t 94 = .s (.int .i64 ts.length) /\ σ.t 95 = .s (.int .i64 k)) ts.length ⟨0, Nat.zero_le _, rfl, ?_⟩ ?_
     ·have hmn : vC [] = false := rfl
      simp only [go_sem, simprocAttr, g2, g2b, g3, g4, g5, g8, g29, g7, g9, g9b, g888, wb, xe, xd, hmn, hm0, Bool.or_false]
      done
     ·clear g2 g2b g3 g4 g5 g8 g29 g7 g9 g9b g888 hK
      rintro m σ ⟨k, hk, rfl, g2, g2b, g3, g4, g9, g9b, g888, gn, g11, g93, g94, g95⟩ K2 hK
      by_cases hkl : k < ts.length
      ·have hms := many_succ ts k hkl
       have hown := MType.own_eq ts[k]
       have hrow : (ts.map MType.own)[k]? = some [.s (.string ts[k].name), .s (.int .i64 ts[k].params), .osl 68 3 (ts[k].cons.map MCon.own)] := by rw [List.getElem?_map, List.getElem?_eq_getElem hkl, Option.map_some, hown]
       have hset : (ts.map MType.own).set k [.s (.string ts[k].name), .s (.int .i64 ts[k].params), .osl 68 3 (ts[k].cons.map MCon.own)] = ts.map MType.own := by
        refine List.ext_getElem? fun i => ?_
        rw [List.getElem?_set]
        split
        ·rename_i e'; subst e'
         rw [if_pos (by rw [List.length_map]; exact hkl), hrow]
        ·rfl
       refine Zy 888 k g888 hrow (vd 888 2 889 (e := 63) (k := 3) (i := k) (rows := ts.map MType.own) (rr := [.s (.string ts[k].name), .s (.int .i64 ts[k].params), .osl 68 3 (ts[k].cons.map MCon.own)]) (d := .osl 68 3 (ts[k].cons.map MCon.own)) (o := .arr 68 3 (ts[k].cons.map MCon.own)) (by simp only [go_sem, simprocAttr]) rfl rfl (by decide) rfl ?_)
       rcases Bool.eq_false_or_eq_true (decide ((ts[k].cons.length : Int) > 8)) with gb | gb
       all_goals
        have hgb : decide (ts[k].cons.length > 8) = decide ((ts[k].cons.length : Int) > 8) := by
         by_cases q : ts[k].cons.length > 8
         ·rw [decide_eq_true q, decide_eq_true (by omega)]
         ·rw [decide_eq_false q, decide_eq_false (by omega)]
        rw [hgb, gb] at hms
        (have hWf := w13 @g2 @g2b @g3 @g4 @g9 @g9b @g888 @gn @g11 @g93 @g94 @g95 @gb; repeat' (first | refine zS ?_ | refine zI ?_ ?_ | exact zF0 | refine zD fun hb => ?_ | exact zC | refine zT ?_ | fail))
        refine hK (ts.length - (k + 1)) _ _ (by omega) ((Q2 888 2 889 (e := 63) (k := 3) (i := k) (rows := ts.map MType.own) (rr := [.s (.string ts[k].name), .s (.int .i64 ts[k].params), .bs 889 3 ts[k].cons.length]) (r := .bs 889 3 ts[k].cons.length) (d := .osl 68 3 (ts[k].cons.map MCon.own)) (ob := 3 = 3 /\ ts[k].cons.length <= (ts[k].cons.map MCon.own).length) ?_ rfl ?_ ⟨rfl, by rw [List.length_map]; exact Nat.le_refl _⟩ rfl (by decide)).trans (Q3 888 (e := 63) (k := 3) (i := k) (rows := ts.map MType.own) (rr := [.s (.string ts[k].name), .s (.int .i64 ts[k].params), .osl 68 3 (ts[k].cons.map MCon.own)]) ?_ rfl)) ⟨k + 1, by omega, rfl, ?_⟩
        ·simp only [go_sem, simprocAttr]
         done
        ·simp only [go_sem, simprocAttr]
         done
        ·simp only [go_sem, simprocAttr]
         done
        ·simp only [go_sem, simprocAttr, g2, g2b, g3, g4, g9, g9b, g888, gn, g11, g93, g94, g95, Int.natCast_succ, hset, hms, Bool.or_true, Bool.or_false]
         done
      ·obtain rfl : k = ts.length := by omega
       rw [List.take_length] at g11
       have hM : ((Arb.mk ek el : ET).size > 600 \/ ts.length > 8 \/ vC ts = true) ↔ (m0 || vC ts) = true := by
        rw [<- hm0, hln]
        simp only [Bool.or_eq_true, decide_eq_true_eq]
        rw [or_assoc]
        exact or_congr (by omega) (or_congr (by omega) Iff.rfl)
       rcases Bool.eq_false_or_eq_true (m0 || vC ts) with gm | gm
       ·rw [if_pos (hM.2 gm)] at hPR
        subst hPR
        rw [gm] at g11
        (have hWf := w12 @g2 @g2b @g3 @g4 @g9 @g9b @g888 @gn @g11 @g93 @g94 @g95; repeat' (first | refine zS ?_ | refine zI ?_ ?_ | exact zF0 | refine zD fun hb => ?_ | exact zC | refine zT ?_ | fail))
        all_goals exact .inr ⟨rfl, rfl⟩
       ·rw [if_neg (fun q => by rw [hM.1 q] at gm; cases gm)] at hPR
        subst hPR
        rw [gm] at g11
        (have hWf := w12 @g2 @g2b @g3 @g4 @g9 @g9b @g888 @gn @g11 @g93 @g94 @g95; repeat' (first | refine zS ?_ | refine zI ?_ ?_ | exact zF0 | refine zD fun hb => ?_ | exact zC | refine zT ?_ | fail))
        all_goals exact .inl rfl
   ·have f0 := kF z
    have f1 : (s2.code != 0) = true := by simpa using z
    rw [if_neg (c := s2.code = 0 /\ s2.i < T.length) (fun h => z h.1), if_pos (c := s2.code ≠ 0) z] at hPR
    subst hPR
    (have hWf := w16 @g2 @g2b @g3 @g4 @g5 @g8 @g29 @g7 @g9 @g9b @g888 @wb @xe @xd @f0 @f1; repeat' (first | refine zS ?_ | refine zI ?_ ?_ | refine zK (his) ?_ | refine zH hr ?_ | exact zF0 | refine zD fun hb => ?_ | exact zC | refine zT ?_ | fail))
    all_goals exact .inr ⟨rfl, rfl⟩
theorem Xp (s : ByteArray) (hs : s.size <= 9223372036854775807) : FCon Tryz.prog 54 [.s (.string s)] (fun r _ => r = .tup [.ag (wX s).1.own, .s (.int .i64 (wX s).2.1), .s (.int .i64 (wX s).2.2)]) := by
 refine FCon.bareP ?_
 unfold wX
 rcases hq : lexM s with ⟨T, c, a⟩
 by_cases h : c = 0
 ·subst h
  rw [if_pos rfl]
  exact parse_ok s hs hq
 ·rw [if_neg h]
  have := V4 s hs (by rw [hq]; exact h)
  rw [hq] at this
  exact this.mono fun r _ q => .inr ⟨rfl, q⟩
end Go.Proofs.YtgcdbmcoendcdaaGreat
namespace Go.Proofs.YtgcdbmcoendcdaaGreat
theorem quoB_pos (b : UInt8) : 1 <= (quoB b).length := by
 unfold quoB
 repeat' split
 all_goals simp
theorem flat_len (l : List UInt8) : l.length <= (l.flatMap quoB).length := by
 induction l with
 | nil => exact Nat.le_refl _
 | cons b l ih =>
  rw [List.flatMap_cons, List.length_append, List.length_cons]
  have := quoB_pos b
  omega
theorem unqO_len {l t : List UInt8} (h : unqO l = some t) : t.length <= l.length := by
 unfold unqO at h
 split at h
 ·rename_i q
  injection h with h
  have hs := q.choose_spec
  rw [h] at hs
  have h1 := congrArg List.length hs
  unfold quoL at h1
  rw [List.length_append, List.length_cons] at h1
  have := flat_len t
  omega
 ·cases h
def sOk (s : ByteArray) (t : MTok) : Prop := t.s.size <= s.size
theorem extS_le (s : ByteArray) (i j : Nat) : (s.extract i j).size <= s.size := by
 rw [ByteArray.size_extract]; omega
theorem tokM_s (s : ByteArray) (i : Nat) : sOk s (tokM s i).1 := by
 have h0 : ∀ (k n a : Int), sOk s ⟨k, n, noB, a⟩ := fun k n a => Nat.zero_le _
 have h1 : ∀ (k n a : Int) (i j : Nat), sOk s ⟨k, n, s.extract i j, a⟩ := fun k n a i j => extS_le s i j
 unfold tokM
 split
 ·split
  ·exact h0 _ _ _
  ·exact h0 _ _ _
 ·split
  ·split
   ·exact h1 _ _ _ _ _
   ·split
    ·exact h1 _ _ _ _ _
    ·split <;> exact h1 _ _ _ _ _
  ·split
   ·exact h0 _ _ _
   ·split
    ·split
     ·exact h0 _ _ _
     ·split
      ·exact h0 _ _ _
      ·rename_i q
       have h2 := unqO_len q
       exact Nat.le_trans h2 (extS_le s i _)
    ·split
     ·exact h0 _ _ _
     ·rename_i q
      rcases Xu s i with q1 | q1
      ·exact absurd q1 q
      ·show (yG s i).size <= s.size
       omega
def TokK (s : ByteArray) (t : MTok) : Prop := nOk t /\ sOk s t /\ 0 <= t.at_ /\ t.at_ <= (s.size : Nat)
theorem Zh (s : ByteArray) : ∀ (f i : Nat) (acc : List MTok), (∀ t ∈ acc, TokK s t) -> ∀ t ∈ (lexF s f i acc).1, TokK s t
 | 0, i, acc, h => h
 | f + 1, i, acc, h => by
  by_cases hi : s.size <= i
  ·rw [ZV hi]; exact h
  ·have hi : i < s.size := by omega
   cases hb : wD (bAt s i) with
   | true => rw [X9 hi hb]; exact Zh s f (i + 1) acc h
   | false =>
    cases hl : hasM s lpB i with
    | true =>
     cases hr : remM s i with
     | none => rw [Ya hi hb hl hr]; exact fun t ht => by cases ht
     | some j => rw [ZW hi hb hl hr]; exact Zh s f j acc h
    | false =>
     by_cases hc : (tokM s i).2.2 = 0
     ·have hd := tokM_bd hi hc
      rw [ZX hi hb hl hc]
      refine Zh s f _ _ (fun t ht => ?_)
      rcases List.mem_append.1 ht with q | q
      ·exact h t q
      ·rw [List.mem_singleton.1 q]
       exact ⟨tokM_n s i, tokM_s s i, by rw [hd.2.2]; omega, by rw [hd.2.2]; omega⟩
     ·rw [ZU hi hb hl hc]; exact fun t ht => by cases ht
theorem lexM_tb (s : ByteArray) : ∀ t ∈ (lexM s).1, TB t := by
 unfold lexM
 split
 ·rename_i h
  intro t ht
  obtain ⟨h1, h2, h3, h4⟩ := Zh s s.size 0 [] (fun t ht => by cases ht) t ht
  exact ⟨⟨by omega, by omega⟩, h1, Nat.le_trans h2 h⟩
 ·intro t ht; cases ht
theorem spar_good (s : ByteArray) (hs : s.size <= 9223372036854775807) : Good (wX s).1 := by
 unfold wX
 split
 ·exact parT_good (lexM_tb s) ⟨by omega, by omega⟩ (by have := (ZY s).1; omega)
 ·exact ZP
end Go.Proofs.YtgcdbmcoendcdaaGreat
namespace Go.Proofs.YtgcdbmcoendcdaaGreat
open Arb
def sumN {α : Type} (f : α -> Nat) : List α -> Nat
 | [] => 0
 | x :: l => f x + sumN f l
def pvN (n : MNode) : Nat := 0
def pvs (p : MProgram) : Nat := sumN pvN p.nodes
theorem pvs_zero (p : MProgram) : pvs p = 0 := by
 unfold pvs
 induction p.nodes with
 | nil => rfl
 | cons x l ih => show 0 + sumN pvN l = 0; rw [ih]
theorem pvN_app1 (kd at_ n : Int) (s : ByteArray) (ks : List Int) (ps : List MPat) (y : DPNode) : pvN ⟨kd, at_, n, s, ks, ps ++ [⟨[y]⟩]⟩ <= pvN ⟨kd, at_, n, s, ks, ps⟩ + 1 := Nat.le_succ _
def FewN (n : MNode) : Prop := n.kids.length <= 600 /\ n.pats.length <= 20000
theorem parT_pv {T : List MTok} {e : Int} (hT : ∀ t ∈ T, TB t) (he : I64 e) (hTl : T.length <= 10000) : ∀ n ∈ (parT T e).1.nodes, FewN n := by
 unfold parT WR
 have a := types_i hT he hTl (T.length + 1) [] ⟨0, 0, 0, [], []⟩ (Nat.zero_le _) xF
 rcases h1 : yI T e (T.length + 1) [] ⟨0, 0, 0, [], []⟩ with ⟨ts, s1⟩
 rw [h1] at a
 have o := expr_o hT he hTl 101 s1 a.2
 simp only
 rcases h2 : uC T e 101 s1 with ⟨t, s2⟩
 rw [h2] at o
 simp only
 generalize (if s2.code = 0 /\ s2.i < T.length then xx T e s2 7 else s2) = s3
 split
 ·exact fun n hn => by cases hn
 ·split
  ·exact fun n hn => by cases hn
  ·rename_i h
   simp only [not_or] at h
   intro n hn
   have o : AllT EOk t := o
   obtain ⟨x, ks, rfl, ⟨a1, a2, a3, a4, a5, a6⟩, g1, g2⟩ := AllT.lay EI.node t o 0 n hn
   have := h.1
   exact ⟨by show ks.length <= _; omega, a5⟩
theorem spar_pv (s : ByteArray) : pvs (wX s).1 <= s.size /\ ∀ n ∈ (wX s).1.nodes, FewN n := by
 refine ⟨by rw [pvs_zero]; exact Nat.zero_le _, ?_⟩
 unfold wX
 split
 ·exact parT_pv (lexM_tb s) (e := s.size) (by
   rename_i h
   unfold lexM at h
   split at h
   ·exact ⟨by omega, by omega⟩
   ·simp at h) (by have := (ZY s).1; omega)
 ·exact fun n hn => by cases hn
end Go.Proofs.YtgcdbmcoendcdaaGreat
namespace Go.Proofs.YtgcdbmcoendcdaaGreat
open Go.RowKit
structure GoodQ (p : MProgram) : Prop where
 good : Good p
 pv : pvs p <= 1100
 few : ∀ n ∈ p.nodes, FewN n
def GoodR (r : D) : Prop := ∃ p : MProgram, r = .ag p.own /\ GoodQ p
theorem spar_q (s : ByteArray) (hs : s.size <= 1100) : GoodQ (wX s).1 := ⟨spar_good s (by omega), Nat.le_trans (spar_pv s).1 hs, (spar_pv s).2⟩
theorem VF (c : Cur) : FCon Tryz.prog 174 [c.d] (fun r o => GoodR r /\ ∃ c', o = [Cur.d c']) := by
 obtain ⟨x, c1, x0, x1, B1⟩ := xD c (n := 12) (by omega) (by omega)
 obtain ⟨y, c2, y0, y1, B2⟩ := xD c1 (n := 3) (by omega) (by omega)
 obtain ⟨y, rfl⟩ := Int.eq_ofNat_of_zero_le y0
 refine FI PM Tryz.func174 Tryz.ntmps174 [] rfl rfl ?_
 (have hWf := f0; repeat' (first | refine zS ?_ | refine zI ?_ ?_ | refine zH B1 ?_ | ((with_reducible apply xc); refine xm (Yy x x0 x1) ?_; rintro _ _ ⟨s, rfl, hs⟩) | refine zU (Yy x x0 x1) ?_ | refine zH B2 ?_ | exact zF0 | refine zD fun hb => ?_ | exact zC | refine zT ?_ | fail))
 refine xk (fun n σ => ∃ (m : Nat) (c' : Cur) (s : ByteArray), n = m /\ s.size + 20 * m <= 1060 /\ m <= 3 /\ σ.t 0 = .bx 900000 0 /\ σ.b 900000 = some (.box [.sl 1 (c'.zs.map u8E), .s (.int .i64 c'.k), .s (.int .i64 c'.h)]) /\ σ.t 2 = .bx 2 0 /\ σ.b 2 = some (.box [.nil, .nil]) /\ σ.t 3 = .s (.string s) /\ σ.t 4 = .s (.int .i64 m)) y ⟨y, c2, s, rfl, by omega, by omega, ?_⟩ ?_
 ·simp only [go_sem, simprocAttr]
  done
 ·rintro n σ ⟨m, c', s', rfl, hm, hm3, h0, hb0, h2, hb2, h3, h4⟩ K' hK
  by_cases hz : n = 0
  ·subst hz
   have hp := Xp s' (by omega)
   have hg := spar_q s' (by omega)
   generalize wX s' = q at hp hg
   obtain ⟨p, z, a⟩ := q
   simp only at hp hg
   rw [MProgram.own_eq] at hp
   (have hWf := w7 @h0 @hb0 @h2 @hb2 @h3 @h4 @Int.natCast_zero; repeat' (first | refine zS ?_ | refine zI ?_ ?_ | ((with_reducible apply xc); refine xm (hp) ?_; rintro _ _ rfl) | refine zU (hp) ?_ | exact zF0 | refine zD fun hb => ?_ | exact zC | refine zT ?_ | fail))
   ·exact ⟨p, rfl, hg⟩
   ·exact ⟨c', rfl⟩
  ·obtain ⟨m, rfl⟩ : ∃ m, n = m + 1 := ⟨n - 1, by omega⟩
   have e1 : decide ((((m + 1 : Nat) : Int)) > 0) = true := by simp
   (have hWf := w7 @h0 @hb0 @h2 @hb2 @h3 @h4 @e1; repeat' (first | refine zS ?_ | refine zI ?_ ?_ | ((with_reducible apply xc); refine xm (UA c' s' (by omega)) ?_; rintro _ _ ⟨⟨s2, rfl, hs2⟩, c3, rfl⟩) | refine zU (UA c' s' (by omega)) ?_ | exact zF0 | refine zD fun hb => ?_ | exact zC | refine zT ?_ | fail))
   have hp := Xp s2 (by omega)
   generalize wX s2 = q at hp
   obtain ⟨p, z, a⟩ := q
   simp only at hp
   rw [MProgram.own_eq] at hp
   rcases Bool.eq_false_or_eq_true (z == 0) with gz | gz
   all_goals
    (have hWf := w8 @h0 @hb0 @h2 @hb2 @h3 @h4 @e1 @gz; repeat' (first | refine zS ?_ | refine zI ?_ ?_ | ((with_reducible apply xc); refine xm (hp) ?_; rintro _ _ rfl) | refine zU (hp) ?_ | exact zF0 | refine zD fun hb => ?_ | exact zC | refine zT ?_ | fail))
   ·refine hK m _ (by omega) ⟨m, c3, s2, rfl, by omega, by omega, ?_⟩
    simp only [go_sem, simprocAttr, h0, hb0, h2, hb2, h3, h4, cast1]
    all_goals exact yp (by omega)
   ·refine hK m _ (by omega) ⟨m, c3, s', rfl, by omega, by omega, ?_⟩
    simp only [go_sem, simprocAttr, h0, hb0, h2, hb2, h3, h4, cast1]
    all_goals exact yp (by omega)
theorem UG (c : Cur) : FCon Tryz.prog 173 [c.d] (fun r o => StrR 1000 r /\ ∃ c', o = [Cur.d c']) := by
 obtain ⟨q, c3, q0, q1, B3⟩ := xD c (n := ((20 : Nat) : Int)) (by simp) (by simp)
 obtain ⟨q, rfl⟩ := Int.eq_ofNat_of_zero_le q0
 have hq : q < 20 := by omega
 refine FI PM Tryz.func173 Tryz.ntmps173 [] rfl rfl ?_
 iterate 2 (refine xA ?_; simp only [go_sem, simprocAttr]; (have hWf := f0; repeat' (first | refine zY ?_ | refine zI ?_ ?_ | exact zF1 | refine zD fun hb => ?_ | exact zC | refine zT ?_ | fail)))
 refine AC_gen 4 (by (simp only [go_sem, simprocAttr]); rfl) (fun rows => ∃ ss : List ByteArray, rows = ss.map stE /\ ss.length = 20 /\ ∀ x ∈ ss, x.size <= 500) ?_ ?_
 ·exact ⟨[_, _, _, _, _, _, _, _, _, _, _, _, _, _, _, _, _, _, _, _], rfl, rfl, by decide +kernel⟩
 rintro rows ⟨ss, rfl, hl, hsz⟩
 have hx := xh stE ss q (by omega)
 have he := yH (ss[q]'(by omega))
 have hss := hsz _ (List.getElem_mem (show q < ss.length by omega))
 have hlen : ((ss.map stE).length : Nat) = 20 := by simp [hl]
 (have hWf := w3 @hx @he @hlen; repeat' (first | refine zS ?_ | refine zI ?_ ?_ | refine zH B3 ?_ | exact zF0 | refine zD fun hb => ?_ | exact zC | refine zT ?_ | fail))
 all_goals first | exact ⟨_, rfl, by omega⟩ | exact ⟨c3, rfl⟩
theorem UH (c : Cur) : FCon Tryz.prog 93 [c.d] (fun r o => StrR 1100 r /\ ∃ c', o = [Cur.d c']) := by
 obtain ⟨q, c1, q0, q1, B1⟩ := xD c (n := ((19 : Nat) : Int)) (by simp) (by simp)
 obtain ⟨k, c2, k0, k1, B2⟩ := xD c1 (n := 3) (by omega) (by omega)
 obtain ⟨z, c3, z0, z1, B3⟩ := xD c2 (n := ((19 : Nat) : Int)) (by simp) (by simp)
 obtain ⟨q, rfl⟩ := Int.eq_ofNat_of_zero_le q0
 obtain ⟨z, rfl⟩ := Int.eq_ofNat_of_zero_le z0
 have hq : q < 19 := by omega
 have hz : z < 19 := by omega
 refine FI PM Tryz.func93 Tryz.ntmps93 [] rfl rfl ?_
 iterate 2 (refine xA ?_; simp only [go_sem, simprocAttr]; (have hWf := f0; repeat' (first | refine zY ?_ | refine zI ?_ ?_ | exact zF1 | refine zD fun hb => ?_ | exact zC | refine zT ?_ | fail)))
 refine AC_gen 5 (by (simp only [go_sem, simprocAttr]); rfl) (fun rows => ∃ ss : List ByteArray, rows = ss.map stE /\ ss.length = 19 /\ ∀ x ∈ ss, x.size <= 500) ?_ ?_
 ·exact ⟨[_, _, _, _, _, _, _, _, _, _, _, _, _, _, _, _, _, _, _], rfl, rfl, by decide +kernel⟩
 rintro rows ⟨ss, rfl, hl, hsz⟩
 have hx := xh stE ss q (by omega)
 have he := yH (ss[q]'(by omega))
 have hss := hsz _ (List.getElem_mem (show q < ss.length by omega))
 have hx2 := xh stE ss z (by omega)
 have he2 := yH (ss[z]'(by omega))
 have hss2 := hsz _ (List.getElem_mem (show z < ss.length by omega))
 have hlen : ((ss.map stE).length : Nat) = 19 := by simp [hl]
 by_cases hk : k = 0
 ·subst hk
  (have hWf := w5 @hx @he @hx2 @he2 @hlen; repeat' (first | refine zS ?_ | refine zI ?_ ?_ | refine zH B1 ?_ | refine zH B2 ?_ | refine zX (B3) ?_ | ((with_reducible apply xc); refine xm (B3) ?_; rintro _ _ ⟨rfl, rfl⟩) | exact zF0 | refine zD fun hb => ?_ | exact zC | refine zT ?_ | fail))
  all_goals first
   | exact ⟨c3, rfl⟩
   | exact ⟨_, rfl, by have a1 : (#[108, 101, 116, 32, 122, 32, 61, 32] : Array UInt8).size = 8 := rfl; have a2 : (#[32, 105, 110, 32] : Array UInt8).size = 4 := rfl; rw [ByteArray.size_append, ByteArray.size_append, ByteArray.size_append]; show (#[108, 101, 116, 32, 122, 32, 61, 32] : Array UInt8).size + _ + (#[32, 105, 110, 32] : Array UInt8).size + _ <= _; omega⟩
   | (have a1 : (#[108, 101, 116, 32, 122, 32, 61, 32] : Array UInt8).size = 8 := rfl; have a2 : (#[32, 105, 110, 32] : Array UInt8).size = 4 := rfl; omega)
 ·have f0 := kF hk
  (have hWf := w4 @hx @he @hlen @f0; repeat' (first | refine zS ?_ | refine zI ?_ ?_ | refine zH B1 ?_ | refine zH B2 ?_ | exact zF0 | refine zD fun hb => ?_ | exact zC | refine zT ?_ | fail))
  all_goals first | exact ⟨_, rfl, by omega⟩ | exact ⟨c2, rfl⟩
theorem kT' {k z : Int} (h : k = z) : (k == z) = true := by simpa using h
theorem kF' {k z : Int} (h : ¬ k = z) : (k == z) = false := by simpa using h
theorem Uz (c : Cur) : ∃ (s : ByteArray) (c' : Cur), s.size <= 20 /\ FCon Tryz.prog 232 [c.d] (fun r o => r = .s (.string s) /\ o = [Cur.d c']) := by
 obtain ⟨q, c3, q0, q1, B3⟩ := xD c (n := 17) (by omega) (by omega)
 have hq : q = 0 \/ q = 1 \/ q = 2 \/ q = 3 \/ q = 4 \/ q = 5 \/ q = 6 \/ q = 7 \/ q = 8 \/ q = 9 \/ q = 10 \/ q = 11 \/ q = 12 \/ q = 13 \/ q = 14 \/ q = 15 \/ q = 16 := by omega
 rcases hq with rfl | rfl | rfl | rfl | rfl | rfl | rfl | rfl | rfl | rfl | rfl | rfl | rfl | rfl | rfl | rfl | rfl
 ·refine ⟨⟨#[]⟩, c3, by decide, ?_⟩
  refine FI PM Tryz.func232 Tryz.ntmps232 [] rfl rfl ?_
  (have hWf := w2 @int0 @xV; repeat' (first | refine zS ?_ | refine zI ?_ ?_ | refine zH B3 ?_ | exact zF0 | refine zD fun hb => ?_ | exact zC | refine zT ?_ | fail))
  all_goals first | rfl | exact ⟨rfl, rfl⟩
 ·refine ⟨⟨#[97]⟩, c3, by decide, ?_⟩
  refine FI PM Tryz.func232 Tryz.ntmps232 [] rfl rfl ?_
  (have hWf := w2 @int0 @xV; repeat' (first | refine zS ?_ | refine zI ?_ ?_ | refine zH B3 ?_ | exact zF0 | refine zD fun hb => ?_ | exact zC | refine zT ?_ | fail))
  all_goals first | rfl | exact ⟨rfl, rfl⟩
 ·refine ⟨⟨#[97, 66, 95, 57]⟩, c3, by decide, ?_⟩
  refine FI PM Tryz.func232 Tryz.ntmps232 [] rfl rfl ?_
  (have hWf := w2 @int0 @xV; repeat' (first | refine zS ?_ | refine zI ?_ ?_ | refine zH B3 ?_ | exact zF0 | refine zD fun hb => ?_ | exact zC | refine zT ?_ | fail))
  all_goals first | rfl | exact ⟨rfl, rfl⟩
 ·refine ⟨⟨#[97, 98, 99, 100, 101, 102, 103, 104, 105, 106, 107, 108]⟩, c3, by decide, ?_⟩
  refine FI PM Tryz.func232 Tryz.ntmps232 [] rfl rfl ?_
  (have hWf := w2 @int0 @xV; repeat' (first | refine zS ?_ | refine zI ?_ ?_ | refine zH B3 ?_ | exact zF0 | refine zD fun hb => ?_ | exact zC | refine zT ?_ | fail))
  all_goals first | rfl | exact ⟨rfl, rfl⟩
 ·refine ⟨⟨#[97, 98, 99, 100, 101, 102, 103, 104, 105, 106, 107, 108, 109]⟩, c3, by decide, ?_⟩
  refine FI PM Tryz.func232 Tryz.ntmps232 [] rfl rfl ?_
  (have hWf := w2 @int0 @xV; repeat' (first | refine zS ?_ | refine zI ?_ ?_ | refine zH B3 ?_ | exact zF0 | refine zD fun hb => ?_ | exact zC | refine zT ?_ | fail))
  all_goals first | rfl | exact ⟨rfl, rfl⟩
 ·refine ⟨⟨#[65]⟩, c3, by decide, ?_⟩
  refine FI PM Tryz.func232 Tryz.ntmps232 [] rfl rfl ?_
  (have hWf := w2 @int0 @xV; repeat' (first | refine zS ?_ | refine zI ?_ ?_ | refine zH B3 ?_ | exact zF0 | refine zD fun hb => ?_ | exact zC | refine zT ?_ | fail))
  all_goals first | rfl | exact ⟨rfl, rfl⟩
 ·refine ⟨⟨#[67, 111, 110, 115]⟩, c3, by decide, ?_⟩
  refine FI PM Tryz.func232 Tryz.ntmps232 [] rfl rfl ?_
  (have hWf := w2 @int0 @xV; repeat' (first | refine zS ?_ | refine zI ?_ ?_ | refine zH B3 ?_ | exact zF0 | refine zD fun hb => ?_ | exact zC | refine zT ?_ | fail))
  all_goals first | rfl | exact ⟨rfl, rfl⟩
 ·refine ⟨⟨#[65, 66, 67, 68, 69, 70, 71, 72, 73, 74, 75, 76]⟩, c3, by decide, ?_⟩
  refine FI PM Tryz.func232 Tryz.ntmps232 [] rfl rfl ?_
  (have hWf := w2 @int0 @xV; repeat' (first | refine zS ?_ | refine zI ?_ ?_ | refine zH B3 ?_ | exact zF0 | refine zD fun hb => ?_ | exact zC | refine zT ?_ | fail))
  all_goals first | rfl | exact ⟨rfl, rfl⟩
 ·refine ⟨⟨#[65, 66, 67, 68, 69, 70, 71, 72, 73, 74, 75, 76, 77]⟩, c3, by decide, ?_⟩
  refine FI PM Tryz.func232 Tryz.ntmps232 [] rfl rfl ?_
  (have hWf := w2 @int0 @xV; repeat' (first | refine zS ?_ | refine zI ?_ ?_ | refine zH B3 ?_ | exact zF0 | refine zD fun hb => ?_ | exact zC | refine zT ?_ | fail))
  all_goals first | rfl | exact ⟨rfl, rfl⟩
 ·refine ⟨⟨#[57, 97]⟩, c3, by decide, ?_⟩
  refine FI PM Tryz.func232 Tryz.ntmps232 [] rfl rfl ?_
  (have hWf := w2 @int0 @xV; repeat' (first | refine zS ?_ | refine zI ?_ ?_ | refine zH B3 ?_ | exact zF0 | refine zD fun hb => ?_ | exact zC | refine zT ?_ | fail))
  all_goals first | rfl | exact ⟨rfl, rfl⟩
 ·refine ⟨⟨#[95, 97]⟩, c3, by decide, ?_⟩
  refine FI PM Tryz.func232 Tryz.ntmps232 [] rfl rfl ?_
  (have hWf := w2 @int0 @xV; repeat' (first | refine zS ?_ | refine zI ?_ ?_ | refine zH B3 ?_ | exact zF0 | refine zD fun hb => ?_ | exact zC | refine zT ?_ | fail))
  all_goals first | rfl | exact ⟨rfl, rfl⟩
 ·refine ⟨⟨#[108, 101, 116]⟩, c3, by decide, ?_⟩
  refine FI PM Tryz.func232 Tryz.ntmps232 [] rfl rfl ?_
  (have hWf := w2 @int0 @xV; repeat' (first | refine zS ?_ | refine zI ?_ ?_ | refine zH B3 ?_ | exact zF0 | refine zD fun hb => ?_ | exact zC | refine zT ?_ | fail))
  all_goals first | rfl | exact ⟨rfl, rfl⟩
 ·refine ⟨⟨#[114, 101, 102]⟩, c3, by decide, ?_⟩
  refine FI PM Tryz.func232 Tryz.ntmps232 [] rfl rfl ?_
  (have hWf := w2 @int0 @xV; repeat' (first | refine zS ?_ | refine zI ?_ ?_ | refine zH B3 ?_ | exact zF0 | refine zD fun hb => ?_ | exact zC | refine zT ?_ | fail))
  all_goals first | rfl | exact ⟨rfl, rfl⟩
 ·refine ⟨⟨#[116, 114, 117, 101]⟩, c3, by decide, ?_⟩
  refine FI PM Tryz.func232 Tryz.ntmps232 [] rfl rfl ?_
  (have hWf := w2 @int0 @xV; repeat' (first | refine zS ?_ | refine zI ?_ ?_ | refine zH B3 ?_ | exact zF0 | refine zD fun hb => ?_ | exact zC | refine zT ?_ | fail))
  all_goals first | rfl | exact ⟨rfl, rfl⟩
 ·refine ⟨⟨#[108, 101, 116, 115]⟩, c3, by decide, ?_⟩
  refine FI PM Tryz.func232 Tryz.ntmps232 [] rfl rfl ?_
  (have hWf := w2 @int0 @xV; repeat' (first | refine zS ?_ | refine zI ?_ ?_ | refine zH B3 ?_ | exact zF0 | refine zD fun hb => ?_ | exact zC | refine zT ?_ | fail))
  all_goals first | rfl | exact ⟨rfl, rfl⟩
 ·refine ⟨⟨#[195, 169]⟩, c3, by decide, ?_⟩
  refine FI PM Tryz.func232 Tryz.ntmps232 [] rfl rfl ?_
  (have hWf := w2 @int0 @xV; repeat' (first | refine zS ?_ | refine zI ?_ ?_ | refine zH B3 ?_ | exact zF0 | refine zD fun hb => ?_ | exact zC | refine zT ?_ | fail))
  all_goals first | rfl | exact ⟨rfl, rfl⟩
 ·refine ⟨⟨#[97, 195, 169]⟩, c3, by decide, ?_⟩
  refine FI PM Tryz.func232 Tryz.ntmps232 [] rfl rfl ?_
  (have hWf := w2 @int0 @xV; repeat' (first | refine zS ?_ | refine zI ?_ ?_ | refine zH B3 ?_ | exact zF0 | refine zD fun hb => ?_ | exact zC | refine zT ?_ | fail))
  all_goals first | rfl | exact ⟨rfl, rfl⟩
def RawE (c : Cur) : Prop := ∃ (x : Int) (c' : Cur), I64 x /\ FCon Tryz.prog 233 [c.d] (fun r o => r = .s (.int .i64 x) /\ o = [Cur.d c'])
theorem VB (c : Cur) : RawE c := by
 obtain ⟨k, c1, k0, k1, B1⟩ := xD c (n := 11) (by omega) (by omega)
 by_cases h4 : k < 4
 ·obtain ⟨z, c2, z0, z1, B2⟩ := xD c1 (n := 20) (by omega) (by omega)
  have e4 : decide (k < 4) = true := by simpa using h4
  refine ⟨z - 4, c2, ⟨by omega, by omega⟩, ?_⟩
  refine FI PM Tryz.func233 Tryz.ntmps233 [] rfl rfl ?_
  (have hWf := w1 @e4; repeat' (first | refine zS ?_ | refine zI ?_ ?_ | refine zH B1 ?_ | refine zH B2 ?_ | exact zF0 | refine zD fun hb => ?_ | exact zC | refine zT ?_ | fail))
  all_goals rfl
 have e4 : decide (k < 4) = false := by simpa using h4
 by_cases h4' : k = 4
 ·obtain ⟨z, c2, z0, z1, B2⟩ := xD c1 (n := 3) (by omega) (by omega)
  have f4 := kT' h4'
  refine ⟨4611686018427387902 + z, c2, ⟨by omega, by omega⟩, ?_⟩
  refine FI PM Tryz.func233 Tryz.ntmps233 [] rfl rfl ?_
  (have hWf := w2 @e4 @f4; repeat' (first | refine zS ?_ | refine zI ?_ ?_ | refine zH B1 ?_ | refine zH B2 ?_ | exact zF0 | refine zD fun hb => ?_ | exact zC | refine zT ?_ | fail))
  all_goals rfl
 have f4 := kF' h4'
 by_cases h5' : k = 5
 ·obtain ⟨z, c2, z0, z1, B2⟩ := xD c1 (n := 3) (by omega) (by omega)
  have f5 := kT' h5'
  refine ⟨-4611686018427387905 + z, c2, ⟨by omega, by omega⟩, ?_⟩
  refine FI PM Tryz.func233 Tryz.ntmps233 [] rfl rfl ?_
  (have hWf := w3 @e4 @f4 @f5; repeat' (first | refine zS ?_ | refine zI ?_ ?_ | refine zH B1 ?_ | refine zH B2 ?_ | exact zF0 | refine zD fun hb => ?_ | exact zC | refine zT ?_ | fail))
  all_goals rfl
 have f5 := kF' h5'
 by_cases h6' : k = 6
 ·obtain ⟨z, c2, z0, z1, B2⟩ := xD c1 (n := 2) (by omega) (by omega)
  have f6 := kT' h6'
  refine ⟨9223372036854775807 - z, c2, ⟨by omega, by omega⟩, ?_⟩
  refine FI PM Tryz.func233 Tryz.ntmps233 [] rfl rfl ?_
  (have hWf := w4 @e4 @f4 @f5 @f6; repeat' (first | refine zS ?_ | refine zI ?_ ?_ | refine zH B1 ?_ | refine zH B2 ?_ | exact zF0 | refine zD fun hb => ?_ | exact zC | refine zT ?_ | fail))
  all_goals rfl
 have f6 := kF' h6'
 by_cases h7' : k = 7
 ·obtain ⟨z, c2, z0, z1, B2⟩ := xD c1 (n := 2) (by omega) (by omega)
  have f7 := kT' h7'
  refine ⟨-9223372036854775807 - z, c2, ⟨by omega, by omega⟩, ?_⟩
  refine FI PM Tryz.func233 Tryz.ntmps233 [] rfl rfl ?_
  (have hWf := w5 @e4 @f4 @f5 @f6 @f7; repeat' (first | refine zS ?_ | refine zI ?_ ?_ | refine zH B1 ?_ | refine zH B2 ?_ | exact zF0 | refine zD fun hb => ?_ | exact zC | refine zT ?_ | fail))
  all_goals rfl
 have f7 := kF' h7'
 by_cases h8 : k = 8
 ·obtain ⟨z, c2, z0, z1, B2⟩ := xD c1 (n := 63) (by omega) (by omega)
  have f8 := kT' h8
  obtain ⟨z, rfl⟩ := Int.eq_ofNat_of_zero_le z0
  have hp : (2 : Int) ^ z <= 2 ^ 62 := by exact_mod_cast Nat.pow_le_pow_right (by decide) (show z <= 62 by omega)
  refine ⟨2 ^ z, c2, ⟨by have : (0 : Int) <= 2 ^ z := Int.pow_nonneg (by decide); omega, by have : (2 : Int) ^ 62 = 4611686018427387904 := rfl; omega⟩, ?_⟩
  refine FI PM Tryz.func233 Tryz.ntmps233 [] rfl rfl ?_
  (have hWf := w6 @e4 @f4 @f5 @f6 @f7 @f8; repeat' (first | refine zS ?_ | refine zI ?_ ?_ | refine zH B1 ?_ | refine zH B2 ?_ | exact zF0 | refine zD fun hb => ?_ | exact zC | refine zT ?_ | fail))
  have g0 : (0 : Int) <= 2 ^ z := Int.pow_nonneg (by decide)
  have g1 : (2 : Int) ^ 62 = 4611686018427387904 := rfl
  all_goals first | (rw [Int.one_mul]; done) | (rw [Int.one_mul]; omega)
 have f8 := kF' h8
 obtain ⟨u, c2, u0, u1, B2⟩ := xD c1 (n := 65536) (by omega) (by omega)
 obtain ⟨v, c3, v0, v1, B3⟩ := xD c2 (n := 65536) (by omega) (by omega)
 obtain ⟨w, c4, w0, w1, B4⟩ := xD c3 (n := 1000) (by omega) (by omega)
 have m0 : 0 <= u * 65537 * v := Int.mul_nonneg (by omega) v0
 have m1 : u * 65537 * v <= 4294967295 * 65536 := Int.mul_le_mul (by omega) (by omega) v0 (by omega)
 refine ⟨u * 65537 * v - w, c4, ⟨by omega, by omega⟩, ?_⟩
 refine FI PM Tryz.func233 Tryz.ntmps233 [] rfl rfl ?_
 (have hWf := w6 @e4 @f4 @f5 @f6 @f7 @f8; repeat' (first | refine zS ?_ | refine zI ?_ ?_ | refine zH B1 ?_ | refine zH B2 ?_ | refine zH B3 ?_ | refine zH B4 ?_ | exact zF0 | refine zD fun hb => ?_ | exact zC | refine zT ?_ | fail))
 all_goals rfl
def RW (d d' : D) : Prop := ∀ (S : Nat -> Prop) (up : Nat -> Option Pos) (w : World) (p : Option Pos) (v : Value), Rep S up w p d v -> Rep S up w p d' v
theorem RW.refl (d : D) : RW d d := fun _ _ _ _ _ h => h
theorem RW.nilS (k : Nat) : RW .nil (.sl k []) := fun _ _ _ _ _ h => Rep.nil_sl k h
def Rr (row row' : List D) : Prop := row'.length = row.length /\ ∀ (j : Nat) (d' : D), row'[j]? = some d' -> ∃ d, row[j]? = some d /\ RW d d'
theorem Rr.refl (row : List D) : Rr row row := ⟨rfl, fun j d' h => ⟨d', h, RW.refl _⟩⟩
theorem Rr.cons {d d' : D} {l l' : List D} (h : RW d d') (hl : Rr l l') : Rr (d :: l) (d' :: l') := ⟨by simp [hl.1], fun j x hx => by
 cases j with
 | zero => simp at hx; subst hx; exact ⟨d, rfl, h⟩
 | succ j => simp at hx; obtain ⟨y, h1, h2⟩ := hl.2 j x hx; exact ⟨y, by simpa using h1, h2⟩⟩
def RWs (rows rows' : List (List D)) : Prop := rows'.length = rows.length /\ ∀ (i : Nat) (row' : List D), rows'[i]? = some row' -> ∃ row, rows[i]? = some row /\ Rr row row'
theorem RWs.refl (rows : List (List D)) : RWs rows rows := ⟨rfl, fun i r h => ⟨r, h, Rr.refl _⟩⟩
theorem RWs.cons {r r' : List D} {l l' : List (List D)} (h : Rr r r') (hl : RWs l l') : RWs (r :: l) (r' :: l') := ⟨by simp [hl.1], fun j x hx => by
 cases j with
 | zero => simp at hx; subst hx; exact ⟨r, rfl, h⟩
 | succ j => simp at hx; obtain ⟨y, h1, h2⟩ := hl.2 j x hx; exact ⟨y, by simpa using h1, h2⟩⟩
theorem RWs.app {a b b' : List (List D)} (h : RWs b b') : RWs (a ++ b) (a ++ b') := by
 induction a with
 | nil => exact h
 | cons r a ih => exact RWs.cons (Rr.refl r) ih
theorem RWs.set {rows : List (List D)} {i : Nat} {r r' : List D} (h : Rr r r') : RWs (rows.set i r) (rows.set i r') := ⟨by rw [List.length_set, List.length_set], fun j x hx => by
 rw [List.getElem?_set] at hx
 split at hx
 ·rename_i e
  split at hx
  ·rename_i hlt
   injection hx with hx; subst hx
   exact ⟨r, by rw [List.getElem?_set, if_pos e, if_pos hlt], h⟩
  ·cases hx
 ·rename_i e
  exact ⟨x, by rw [List.getElem?_set, if_neg e]; exact hx, Rr.refl _⟩⟩
theorem RW.sl {k : Nat} {rows rows' : List (List D)} (h : RWs rows rows') : RW (.sl k rows) (.sl k rows') := fun S up w p v hv => by
 obtain ⟨hl, hr⟩ := h
 cases hv with
 | sl0 q => obtain rfl := List.length_eq_zero_iff.1 hl; exact .sl0 q
 | sl us q1 q2 q3 q4 q5 =>
  rw [<- hl] at q1 ⊢
  refine .sl us q1 q2 (fun i row' hi => ?_) (fun i j row' d' hi hj => ?_) (fun i j row' d' hi hj => ?_)
  ·obtain ⟨row, h1, h2, -⟩ := hr i row' hi; rw [h2]; exact q3 i row h1
  ·obtain ⟨row, h1, -, h3⟩ := hr i row' hi; obtain ⟨d, h4, -⟩ := h3 j d' hj; exact q4 i j row d h1 h4
  ·obtain ⟨row, h1, -, h3⟩ := hr i row' hi; obtain ⟨d, h4, h5⟩ := h3 j d' hj; exact h5 _ _ _ _ _ (q5 i j row d h1 h4)
theorem RW.osl {e k : Nat} {rows rows' : List (List D)} (h : RWs rows rows') : RW (.osl e k rows) (.osl e k rows') := fun S up w p v hv => by
 obtain ⟨hl, hr⟩ := h
 cases hv with
 | osl0 => obtain rfl := List.length_eq_zero_iff.1 hl; exact .osl0
 | osl cs q1 q2 q3 q4 q5 q6 q7 =>
  rw [<- hl] at q3 ⊢
  refine .osl cs q1 q2 q3 q4 q5 (fun i row' hi => ?_) (fun i j row' d' hi hj => ?_)
  ·obtain ⟨row, h1, h2, -⟩ := hr i row' hi; rw [h2]; exact q6 i row h1
  ·obtain ⟨row, h1, -, h3⟩ := hr i row' hi; obtain ⟨d, h4, h5⟩ := h3 j d' hj; exact h5 _ _ _ _ _ (q7 i j row d h1 h4)
def RA' (r r' : D) : Prop := ∀ (g : Gh) (w : World) (v : Value), RNs g w r v -> RNs g w r' v
theorem RA'.refl (r : D) : RA' r r := fun _ _ _ h => h
theorem RA'.ag {xs ys : List D} (h : Rr xs ys) : RA' (.ag xs) (.ag ys) := fun g w v q => by
 obtain ⟨us, rfl, h1, h2⟩ := q
 refine ⟨us, rfl, by rw [h.1]; exact h1, fun l y u hy hu => ?_⟩
 obtain ⟨x, e1, e2⟩ := h.2 l y hy
 exact e2 _ _ _ _ _ (h2 l x u e1 hu)
theorem FCon.wa {P : Program} {f : FuncId} {args : List D} {R : D -> Prop} {Q : List D -> Prop} (h : FCon P f args (fun r o => (∃ r', R r' /\ RA' r r') /\ Q o)) : FCon P f args (fun r o => R r /\ Q o) := h.wk fun r o ⟨⟨r', h1, h2⟩, h3⟩ => ⟨r', ⟨h1, h3⟩, h2⟩
end Go.Proofs.YtgcdbmcoendcdaaGreat
