/- Parts of the proof, laid together: HParB, ParP, ParQ, ParL, ParO, ParS, ParJ, ParI, HFlat, HParP. -/
import Derived.BigQuiet
import Derived.Deep.LoopGhost
import Derived.Deep.QuietTactic
import Derived.Deep.RegionLaw
import Derived.Deep.RegionWith
import Derived.Deep.Slices
import Derived.Laws.Cover3
import Derived.Laws.EntriesVeiled
import Derived.Laws.IdiomStrings
import Derived.Laws.StructEq
import Derived.Lib.AppendStr
import Derived.Lib.Hide
import Derived.Lib.SlBytesConst
import Derived.ProofKit
import Derived.Test.YtgcdbmcoendcdaaGreatProg
import Derived.WalkKit
import Derived.Test.YtgcdbmcoendcdaaGreatS6
set_option maxRecDepth 100000
set_option maxHeartbeats 8000000
set_option linter.unusedVariables false
set_option linter.unusedSimpArgs false
namespace Go.Proofs.YtgcdbmcoendcdaaGreat
open Go.RowKit
theorem inT_succ (t : MTok) (l : List ByteArray) {k : Nat} (h : k < l.length) : inT t (l.take (k + 1)) = (inT t (l.take k) || isT t l[k]) := by
 unfold inT
 rw [List.take_succ_eq_append_getElem h, List.any_append]; simp
theorem inT_mono (t : MTok) (l : List ByteArray) (k : Nat) (h : inT t (l.take k) = true) : inT t l = true := by
 unfold inT at h ⊢
 rw [List.any_eq_true] at h ⊢
 obtain ⟨x, h1, h2⟩ := h
 exact ⟨x, List.mem_of_mem_take h1, h2⟩
theorem uj (T : List MTok) (e : Int) (s : PS) (l : List ByteArray) (hl : l.length <= 1000) : FCon Tryz.prog 244 [.pt (rdF T e s), .sl 1 (l.map stE)] (fun r _ => r = .s (.bool (inT (tokS T e s) l))) := by
 have his := xw T e s
 rw [xg] at his ⊢
 refine FI PM Tryz.func244 Tryz.ntmps244 [] rfl rfl ?_
 (have hWf := f0; repeat' (first | refine zS ?_ | refine zI ?_ ?_ | exact zF0 | refine zD fun hb => ?_ | exact zC | refine zT ?_ | fail))
 refine xk (fun n σ => ∃ k : Nat, k <= l.length /\ n = l.length - k /\ inT (tokS T e s) (l.take k) = false /\ σ.t 0 = .pt [.sl 4 (T.map MTok.enc), .s (.int .i64 s.i), .s (.int .i64 e), .s (.int .i64 s.code), .s (.int .i64 s.at_), .sl 1 (s.vars.map iE), .sl 1 (s.seen.map stE)] /\ σ.t 7 = .sl 1 (l.map stE) /\ σ.t 8 = .s (.int .i64 l.length) /\ σ.t 9 = .s (.int .i64 k)) l.length ⟨0, by omega, by omega, rfl, ?_⟩ ?_
 ·simp only [go_sem, simprocAttr, Int.natCast_zero]
 ·rintro n σ ⟨k, hk, rfl, hn, h0, h7, h8, h9⟩ K' hK
  by_cases hlt : k < l.length
  ·have hx := xh stE l k hlt
   have he : stE l[k] = [.s (.string l[k])] := yH _
   have hs := inT_succ (tokS T e s) l hlt
   rw [hn, Bool.false_or] at hs
   have hik := his l[k]
   rw [show isS T e s l[k] = isT (tokS T e s) l[k] from rfl] at hik
   cases h3 : isT (tokS T e s) l[k] with
   | true =>
    rw [h3] at hs hik
    rw [inT_mono _ l _ hs]
    (have hWf := w6 @h0 @h7 @h8 @h9 @hx @he; repeat' (first | refine zS ?_ | refine zI ?_ ?_ | refine zK (hik) ?_ | exact zF0 | refine zD fun hb => ?_ | exact zC | refine zT ?_ | fail))
   | false =>
    rw [h3] at hs hik
    (have hWf := w6 @h0 @h7 @h8 @h9 @hx @he; repeat' (first | refine zS ?_ | refine zI ?_ ?_ | refine zK (hik) ?_ | exact zF0 | refine zD fun hb => ?_ | exact zC | refine zT ?_ | fail))
    refine hK (l.length - (k + 1)) _ (by omega) ⟨k + 1, by omega, rfl, hs, ?_⟩
    simp only [go_sem, simprocAttr, h0, h7, h8, h9, Int.natCast_succ]
  ·obtain rfl : k = l.length := by omega
   rw [List.take_length] at hn
   rw [hn]
   (have hWf := w4 @h0 @h7 @h8 @h9; repeat' (first | refine zS ?_ | refine zI ?_ ?_ | exact zF0 | refine zD fun hb => ?_ | exact zC | refine zT ?_ | fail))
theorem Zt (T : List MTok) (e : Int) (s : PS) : FCon Tryz.prog 260 [.pt (rdF T e s)] (fun r _ => r = .s (.bool (tywT (tokS T e s)))) := by
 have ht := xj T e s
 have hi := xw T e s (⟨#[114, 101, 102]⟩ : ByteArray)
 rw [show isS T e s (⟨#[114, 101, 102]⟩ : ByteArray) = isT (tokS T e s) (⟨#[114, 101, 102]⟩ : ByteArray) from rfl] at hi
 unfold tywT
 generalize tokS T e s = t at *
 rw [xg, MTok.enc_eq] at ht
 rw [xg] at hi ⊢
 by_cases h : t.kind = 3
 ·have f := kT h
  rw [decide_eq_true h, Bool.true_or]
  refine FI PM Tryz.func260 Tryz.ntmps260 [] rfl rfl ?_
  (have hWf := w1 @f; repeat' (first | refine zS ?_ | refine zI ?_ ?_ | refine zK (ht) ?_ | refine zK (hi) ?_ | exact zF0 | refine zD fun hb => ?_ | exact zC | refine zT ?_ | fail))
 ·have f := kF h
  rw [decide_eq_false h, Bool.false_or]
  refine FI PM Tryz.func260 Tryz.ntmps260 [] rfl rfl ?_
  (have hWf := w1 @f; repeat' (first | refine zS ?_ | refine zI ?_ ?_ | refine zK (ht) ?_ | refine zK (hi) ?_ | exact zF0 | refine zD fun hb => ?_ | exact zC | refine zT ?_ | fail))
theorem VD (T : List MTok) (e : Int) (s : PS) : FCon Tryz.prog 263 [.pt (rdF T e s)] (fun r _ => r = .s (.bool (wW (tokS T e s)))) := by
 have ht := xj T e s
 have hi := uj T e s [(⟨#[95]⟩ : ByteArray), (⟨#[45]⟩ : ByteArray), (⟨#[40]⟩ : ByteArray), (⟨#[91]⟩ : ByteArray), (⟨#[116, 114, 117, 101]⟩ : ByteArray), (⟨#[102, 97, 108, 115, 101]⟩ : ByteArray)] (by decide)
 simp only [List.map_cons, List.map_nil, yH] at hi
 unfold wW
 generalize tokS T e s = t at *
 rw [xg, MTok.enc_eq] at ht
 rw [xg] at hi ⊢
 by_cases h3 : t.kind = 3
 ·have f := kT h3
  rw [decide_eq_true (.inl h3), Bool.true_or]
  refine FI PM Tryz.func263 Tryz.ntmps263 [] rfl rfl ?_
  (have hWf := w1 @f; repeat' (first | refine zS ?_ | refine zI ?_ ?_ | refine zK (ht) ?_ | refine zK (hi) ?_ | exact zF0 | refine zD fun hb => ?_ | exact zC | refine zT ?_ | fail))
 ·by_cases h1 : t.kind = 1
  ·have f := kF h3
   have f1 := kT h1
   rw [decide_eq_true (.inr (.inl h1)), Bool.true_or]
   refine FI PM Tryz.func263 Tryz.ntmps263 [] rfl rfl ?_
   (have hWf := w2 @f @f1; repeat' (first | refine zS ?_ | refine zI ?_ ?_ | refine zK (ht) ?_ | refine zK (hi) ?_ | exact zF0 | refine zD fun hb => ?_ | exact zC | refine zT ?_ | fail))
  ·by_cases h4 : t.kind = 4
   ·have f := kF h3
    have f1 := kF h1
    have f4 := kT h4
    rw [decide_eq_true (.inr (.inr h4)), Bool.true_or]
    refine FI PM Tryz.func263 Tryz.ntmps263 [] rfl rfl ?_
    (have hWf := w3 @f @f1 @f4; repeat' (first | refine zS ?_ | refine zI ?_ ?_ | refine zK (ht) ?_ | refine zK (hi) ?_ | exact zF0 | refine zD fun hb => ?_ | exact zC | refine zT ?_ | fail))
   ·have f := kF h3
    have f1 := kF h1
    have f4 := kF h4
    rw [decide_eq_false (by simp [h3, h1, h4]), Bool.false_or]
    refine FI PM Tryz.func263 Tryz.ntmps263 [] rfl rfl ?_
    (have hWf := w3 @f @f1 @f4; repeat' (first | refine zS ?_ | refine zI ?_ ?_ | refine zK (ht) ?_ | refine zK (hi) ?_ | exact zF0 | refine zD fun hb => ?_ | exact zC | refine zT ?_ | fail))
theorem yf (T : List MTok) (e : Int) (s : PS) : FCon Tryz.prog 243 [.pt (rdF T e s)] (fun r _ => r = .s (.bool (begT (tokS T e s)))) := by
 have ht := xj T e s
 have hs := xz (tokS T e s)
 have hd : begT (tokS T e s) = (decide ((tokS T e s).kind = 1 \/ (tokS T e s).kind = 2 \/ (tokS T e s).kind = 3 \/ (tokS T e s).kind = 4) || ((sgT (tokS T e s)).toList == ((⟨#[40]⟩ : ByteArray)).toList) || ((sgT (tokS T e s)).toList == ((⟨#[91]⟩ : ByteArray)).toList) || ((sgT (tokS T e s)).toList == ((⟨#[116, 114, 117, 101]⟩ : ByteArray)).toList) || ((sgT (tokS T e s)).toList == ((⟨#[102, 97, 108, 115, 101]⟩ : ByteArray)).toList)) := rfl
 rw [hd]
 clear hd
 generalize tokS T e s = t at *
 generalize sgT t = g at *
 rw [MTok.enc_eq] at hs
 rw [xg, MTok.enc_eq] at ht
 rw [xg]
 by_cases h1 : t.kind = 1
 ·have f1 := kT h1
  rw [decide_eq_true (.inl h1), Bool.true_or, Bool.true_or, Bool.true_or, Bool.true_or]
  refine FI PM Tryz.func243 Tryz.ntmps243 [] rfl rfl ?_
  (have hWf := w1 @f1; repeat' (first | refine zS ?_ | refine zI ?_ ?_ | refine zK (ht) ?_ | refine zK (hs) ?_ | exact zF0 | refine zD fun hb => ?_ | exact zC | refine zT ?_ | fail))
 ·have f1 := kF h1
  by_cases h2 : t.kind = 2
  ·have f2 := kT h2
   rw [decide_eq_true (.inr (.inl h2)), Bool.true_or, Bool.true_or, Bool.true_or, Bool.true_or]
   refine FI PM Tryz.func243 Tryz.ntmps243 [] rfl rfl ?_
   (have hWf := w2 @f1 @f2; repeat' (first | refine zS ?_ | refine zI ?_ ?_ | refine zK (ht) ?_ | refine zK (hs) ?_ | exact zF0 | refine zD fun hb => ?_ | exact zC | refine zT ?_ | fail))
  ·have f2 := kF h2
   by_cases h3 : t.kind = 3
   ·have f3 := kT h3
    rw [decide_eq_true (.inr (.inr (.inl h3))), Bool.true_or, Bool.true_or, Bool.true_or, Bool.true_or]
    refine FI PM Tryz.func243 Tryz.ntmps243 [] rfl rfl ?_
    (have hWf := w3 @f1 @f2 @f3; repeat' (first | refine zS ?_ | refine zI ?_ ?_ | refine zK (ht) ?_ | refine zK (hs) ?_ | exact zF0 | refine zD fun hb => ?_ | exact zC | refine zT ?_ | fail))
   ·have f3 := kF h3
    by_cases h4 : t.kind = 4
    ·have f4 := kT h4
     rw [decide_eq_true (.inr (.inr (.inr h4))), Bool.true_or, Bool.true_or, Bool.true_or, Bool.true_or]
     refine FI PM Tryz.func243 Tryz.ntmps243 [] rfl rfl ?_
     (have hWf := w4 @f1 @f2 @f3 @f4; repeat' (first | refine zS ?_ | refine zI ?_ ?_ | refine zK (ht) ?_ | refine zK (hs) ?_ | exact zF0 | refine zD fun hb => ?_ | exact zC | refine zT ?_ | fail))
    ·have f4 := kF h4
     rw [decide_eq_false (by simp [h1, h2, h3, h4]), Bool.false_or]
     cases q1 : (g.toList == ((⟨#[40]⟩ : ByteArray)).toList) with
     | true =>
      refine FI PM Tryz.func243 Tryz.ntmps243 [] rfl rfl ?_
      (have hWf := w5 @f1 @f2 @f3 @f4 @q1; repeat' (first | refine zS ?_ | refine zI ?_ ?_ | refine zK (ht) ?_ | refine zK (hs) ?_ | exact zF0 | refine zD fun hb => ?_ | exact zC | refine zT ?_ | fail))
     | false =>
      cases q2 : (g.toList == ((⟨#[91]⟩ : ByteArray)).toList) with
      | true =>
       refine FI PM Tryz.func243 Tryz.ntmps243 [] rfl rfl ?_
       (have hWf := w6 @f1 @f2 @f3 @f4 @q1 @q2; repeat' (first | refine zS ?_ | refine zI ?_ ?_ | refine zK (ht) ?_ | refine zK (hs) ?_ | exact zF0 | refine zD fun hb => ?_ | exact zC | refine zT ?_ | fail))
      | false =>
       cases q3 : (g.toList == ((⟨#[116, 114, 117, 101]⟩ : ByteArray)).toList) with
       | true =>
        refine FI PM Tryz.func243 Tryz.ntmps243 [] rfl rfl ?_
        (have hWf := w7 @f1 @f2 @f3 @f4 @q1 @q2 @q3; repeat' (first | refine zS ?_ | refine zI ?_ ?_ | refine zK (ht) ?_ | refine zK (hs) ?_ | exact zF0 | refine zD fun hb => ?_ | exact zC | refine zT ?_ | fail))
       | false =>
        refine FI PM Tryz.func243 Tryz.ntmps243 [] rfl rfl ?_
        (have hWf := w7 @f1 @f2 @f3 @f4 @q1 @q2 @q3; repeat' (first | refine zS ?_ | refine zI ?_ ?_ | refine zK (ht) ?_ | refine zK (hs) ?_ | exact zF0 | refine zD fun hb => ?_ | exact zC | refine zT ?_ | fail))
theorem VC (T : List MTok) (e : Int) (s : PS) : FCon Tryz.prog 204 [.pt (rdF T e s)] (fun r _ => r = .s (.bool (Zc (tokS T e s)))) := by
 have hb := yf T e s
 have hi := uj T e s [(⟨#[102, 117, 110]⟩ : ByteArray), (⟨#[108, 101, 116]⟩ : ByteArray), (⟨#[105, 102]⟩ : ByteArray), (⟨#[109, 97, 116, 99, 104]⟩ : ByteArray), (⟨#[116, 114, 121]⟩ : ByteArray), (⟨#[114, 97, 105, 115, 101]⟩ : ByteArray), (⟨#[114, 101, 102]⟩ : ByteArray), (⟨#[33]⟩ : ByteArray), (⟨#[45]⟩ : ByteArray)] (by decide)
 simp only [List.map_cons, List.map_nil, yH] at hi
 unfold Zc
 rw [xg] at hi hb ⊢
 cases h : begT (tokS T e s) with
 | true =>
  rw [h] at hb
  rw [Bool.true_or]
  refine FI PM Tryz.func204 Tryz.ntmps204 [] rfl rfl ?_
  (have hWf := f0; repeat' (first | refine zS ?_ | refine zI ?_ ?_ | refine zK (hb) ?_ | refine zK (hi) ?_ | exact zF0 | refine zD fun hb => ?_ | exact zC | refine zT ?_ | fail))
 | false =>
  rw [h] at hb
  rw [Bool.false_or]
  refine FI PM Tryz.func204 Tryz.ntmps204 [] rfl rfl ?_
  (have hWf := f0; repeat' (first | refine zS ?_ | refine zI ?_ ?_ | refine zK (hb) ?_ | refine zK (hi) ?_ | exact zF0 | refine zD fun hb => ?_ | exact zC | refine zT ?_ | fail))
theorem XR {α : Type} (p : α -> Bool) (l : List α) {k : Nat} (h : k < l.length) : (l.take (k + 1)).any p = ((l.take k).any p || p l[k]) := by
 rw [List.take_succ_eq_append_getElem h, List.any_append]; simp
theorem Vs {α : Type} (p : α -> Bool) (l : List α) (k : Nat) (h : (l.take k).any p = true) : l.any p = true := by
 rw [List.any_eq_true] at h ⊢
 obtain ⟨x, h1, h2⟩ := h
 exact ⟨x, List.mem_of_mem_take h1, h2⟩
theorem any_no {α : Type} (l : List α) : (l.any fun _ => false) = false := by
 induction l with
 | nil => rfl
 | cons a l ih => rw [List.any_cons, ih]; rfl
theorem vP (l : List Int) (v : Int) : l.contains v = l.any fun x => x == v := by
 induction l with
 | nil => rfl
 | cons x l ih =>
  rw [List.contains_cons, List.any_cons, ih]
  congr 1
  by_cases h : v = x
  ·rw [h]
  ·rw [kF h, kF (fun q => h q.symm)]
theorem Vd (T : List MTok) (e : Int) (s : PS) (hv : s.vars.length <= 1000) : FCon Tryz.prog 240 [.pt (rdF T e s)] (fun r _ => r = .s (.bool (XM T e s))) := by
 have ht := xj T e s
 have hi := xw T e s (⟨#[40]⟩ : ByteArray)
 have hd : XM T e s = ((s.vars.any fun x => (((tokS T e s).kind == 5) && (x == (tokS T e s).n))) || ((tokS T e s).kind == 3) || isS T e s (⟨#[40]⟩ : ByteArray)) := by
  unfold XM
  rw [vP, show decide ((tokS T e s).kind = 3) = ((tokS T e s).kind == 3) from rfl]
  by_cases h5 : (tokS T e s).kind = 5
  ·have f := kT h5
   rw [decide_eq_true h5, f]
   simp
  ·have f := kF h5
   rw [decide_eq_false h5, f]
   simp only [Bool.false_and, any_no]
 rw [hd]
 clear hd
 generalize tokS T e s = t at *
 generalize isS T e s (⟨#[40]⟩ : ByteArray) = b at *
 rw [xg, MTok.enc_eq] at ht
 rw [xg] at hi ⊢
 refine FI PM Tryz.func240 Tryz.ntmps240 [] rfl rfl ?_
 (have hWf := f0; repeat' (first | refine zS ?_ | refine zI ?_ ?_ | refine zK (ht) ?_ | exact zF0 | refine zD fun hb => ?_ | exact zC | refine zT ?_ | fail))
 refine xk (fun n σ => ∃ k : Nat, k <= s.vars.length /\ n = s.vars.length - k /\ ((s.vars.take k).any fun x => ((t.kind == 5) && (x == t.n))) = false /\ σ.t 0 = .pt [.sl 4 (T.map MTok.enc), .s (.int .i64 s.i), .s (.int .i64 e), .s (.int .i64 s.code), .s (.int .i64 s.at_), .sl 1 (s.vars.map iE), .sl 1 (s.seen.map stE)] /\ σ.t 3 = .bx 3 0 /\ σ.b 3 = some (.box [.s (.int .i64 t.kind), .s (.int .i64 t.n), .s (.string t.s), .s (.int .i64 t.at_)]) /\ σ.t 11 = .sl 1 (s.vars.map iE) /\ σ.t 12 = .s (.int .i64 s.vars.length) /\ σ.t 13 = .s (.int .i64 k)) s.vars.length ⟨0, by omega, by omega, rfl, ?_⟩ ?_
 ·simp only [go_sem, simprocAttr, Int.natCast_zero]
 ·rintro n σ ⟨k, hk, rfl, hn, h0, h3, b3, h11, h12, h13⟩ K' hK
  by_cases hlt : k < s.vars.length
  ·have hx := xh iE s.vars k hlt
   have he : iE s.vars[k] = [.s (.int .i64 s.vars[k])] := rfl
   have hs := XR (fun x => ((t.kind == 5) && (x == t.n))) s.vars hlt
   rw [hn, Bool.false_or] at hs
   by_cases z5 : t.kind = 5
   ·have q5 := kT z5
    rcases Bool.eq_false_or_eq_true (s.vars[k] == t.n) with qn | qn
    ·have hs2 := Vs _ s.vars _ (hs.trans (by simp only [q5, qn]; rfl))
     rw [hs2, Bool.true_or, Bool.true_or]
     (have hWf := w10 @h0 @h3 @b3 @h11 @h12 @h13 @hx @he @q5 @qn; repeat' (first | refine zS ?_ | refine zI ?_ ?_ | exact zF0 | refine zD fun hb => ?_ | exact zC | refine zT ?_ | fail))
    ·(have hWf := w10 @h0 @h3 @b3 @h11 @h12 @h13 @hx @he @q5 @qn; repeat' (first | refine zS ?_ | refine zI ?_ ?_ | exact zF0 | refine zD fun hb => ?_ | exact zC | refine zT ?_ | fail))
     refine hK (s.vars.length - (k + 1)) _ (by omega) ⟨k + 1, by omega, rfl, hs.trans (by simp only [q5, qn]; rfl), ?_⟩
     simp only [go_sem, simprocAttr, h0, h3, b3, h11, h12, h13, Int.natCast_succ]
   ·have q5 := kF z5
    (have hWf := w9 @h0 @h3 @b3 @h11 @h12 @h13 @hx @he @q5; repeat' (first | refine zS ?_ | refine zI ?_ ?_ | exact zF0 | refine zD fun hb => ?_ | exact zC | refine zT ?_ | fail))
    refine hK (s.vars.length - (k + 1)) _ (by omega) ⟨k + 1, by omega, rfl, hs.trans (by simp only [q5]; rfl), ?_⟩
    simp only [go_sem, simprocAttr, h0, h3, b3, h11, h12, h13, Int.natCast_succ]
  ·obtain rfl : k = s.vars.length := by omega
   rw [List.take_length] at hn
   rw [hn, Bool.false_or]
   cases q3 : (t.kind == 3) with
   | true => (have hWf := w7 @h0 @h3 @b3 @h11 @h12 @h13 @q3; repeat' (first | refine zS ?_ | refine zI ?_ ?_ | exact zF0 | refine zD fun hb => ?_ | exact zC | refine zT ?_ | fail))
   | false => (have hWf := w7 @h0 @h3 @b3 @h11 @h12 @h13 @q3; repeat' (first | refine zS ?_ | refine zI ?_ ?_ | refine zK (hi) ?_ | exact zF0 | refine zD fun hb => ?_ | exact zC | refine zT ?_ | fail))
theorem UD (T : List MTok) (e : Int) (s : PS) (t : MTok) (hv : s.seen.length <= 1000000) : FCon Tryz.prog 262 [.pt (rdF T e s), .ag t.enc] (fun r _ => r = .s (.bool (Yi s t))) := by
 have hd : Yi s t = s.seen.any fun x => (t.kind == 3) && (x.toList == t.s.toList) := by
  rfl
 rw [hd, xg, MTok.enc_eq]
 clear hd
 refine FI PM Tryz.func262 Tryz.ntmps262 [] rfl rfl ?_
 (have hWf := f0; repeat' (first | refine zS ?_ | refine zI ?_ ?_ | exact zF0 | refine zD fun hb => ?_ | exact zC | refine zT ?_ | fail))
 refine xk (fun n σ => ∃ k : Nat, k <= s.seen.length /\ n = s.seen.length - k /\ ((s.seen.take k).any fun x => ((t.kind == 3) && (x.toList == t.s.toList))) = false /\ σ.t 3 = .bx 3 0 /\ σ.b 3 = some (.box [.s (.int .i64 t.kind), .s (.int .i64 t.n), .s (.string t.s), .s (.int .i64 t.at_)]) /\ σ.t 10 = .sl 1 (s.seen.map stE) /\ σ.t 11 = .s (.int .i64 s.seen.length) /\ σ.t 12 = .s (.int .i64 k)) s.seen.length ⟨0, by omega, by omega, rfl, ?_⟩ ?_
 ·simp only [go_sem, simprocAttr, Int.natCast_zero]
 ·rintro n σ ⟨k, hk, rfl, hn, h3, b3, h10, h11, h12⟩ K' hK
  by_cases hlt : k < s.seen.length
  ·have hx := xh stE s.seen k hlt
   have he : stE s.seen[k] = [.s (.string s.seen[k])] := yH _
   have hs := XR (fun x => ((t.kind == 3) && (x.toList == t.s.toList))) s.seen hlt
   rw [hn, Bool.false_or] at hs
   by_cases z3 : t.kind = 3
   ·have q3 := kT z3
    rcases Bool.eq_false_or_eq_true (s.seen[k].toList == t.s.toList) with qn | qn
    ·have hs2 := Vs _ s.seen _ (hs.trans (by simp only [q3, qn]; rfl))
     rw [hs2]
     (have hWf := w9 @h3 @b3 @h10 @h11 @h12 @hx @he @q3 @qn; repeat' (first | refine zS ?_ | refine zI ?_ ?_ | exact zF0 | refine zD fun hb => ?_ | exact zC | refine zT ?_ | fail))
    ·(have hWf := w9 @h3 @b3 @h10 @h11 @h12 @hx @he @q3 @qn; repeat' (first | refine zS ?_ | refine zI ?_ ?_ | exact zF0 | refine zD fun hb => ?_ | exact zC | refine zT ?_ | fail))
     refine hK (s.seen.length - (k + 1)) _ (by omega) ⟨k + 1, by omega, rfl, hs.trans (by simp only [q3, qn]; rfl), ?_⟩
     simp only [go_sem, simprocAttr, h3, b3, h10, h11, h12, Int.natCast_succ]
   ·have q3 := kF z3
    (have hWf := w8 @h3 @b3 @h10 @h11 @h12 @hx @he @q3; repeat' (first | refine zS ?_ | refine zI ?_ ?_ | exact zF0 | refine zD fun hb => ?_ | exact zC | refine zT ?_ | fail))
    refine hK (s.seen.length - (k + 1)) _ (by omega) ⟨k + 1, by omega, rfl, hs.trans (by simp only [q3]; rfl), ?_⟩
    simp only [go_sem, simprocAttr, h3, b3, h10, h11, h12, Int.natCast_succ]
  ·obtain rfl : k = s.seen.length := by omega
   rw [List.take_length] at hn
   rw [hn]
   (have hWf := w5 @h3 @b3 @h10 @h11 @h12; repeat' (first | refine zS ?_ | refine zI ?_ ?_ | exact zF0 | refine zD fun hb => ?_ | exact zC | refine zT ?_ | fail))
theorem Yz (T : List MTok) (e : Int) (s : PS) (b : Bool) : FCon Tryz.prog 203 [.opt (rdD T e s), .s (.bool b)] (fun r o => r = .tup [] /\ o = [.opt (rdD T e (zm T e s b)), .un]) := by
 have h9 := yz T e s 9
 have h7 := yz T e s 7
 unfold zm
 rw [xb, xb] at h9 h7
 cases b with
 | true =>
  rw [if_pos rfl, xb, xb]
  refine FI PM Tryz.func203 Tryz.ntmps203 [] rfl rfl ?_
  (have hWf := f0; repeat' (first | refine zS ?_ | refine zI ?_ ?_ | refine zH h9 ?_ | exact zF0 | refine zD fun hb => ?_ | exact zC | refine zT ?_ | fail))
  all_goals rfl
 | false =>
  rw [if_neg (by decide), xb, xb]
  refine FI PM Tryz.func203 Tryz.ntmps203 [] rfl rfl ?_
  (have hWf := f0; repeat' (first | refine zS ?_ | refine zI ?_ ?_ | refine zH h7 ?_ | exact zF0 | refine zD fun hb => ?_ | exact zC | refine zT ?_ | fail))
  all_goals rfl
end Go.Proofs.YtgcdbmcoendcdaaGreat
namespace Go.Proofs.YtgcdbmcoendcdaaGreat
open Arb
section
variable {T : List MTok} {e : Int}
def Bd (T : List MTok) (s s' : PS) (n : Nat) : Prop := s.i + n <= s'.i /\ (s.i <= T.length -> s'.i <= T.length)
theorem Bd.refl (s : PS) : Bd T s s 0 := ⟨Nat.le_refl _, fun h => h⟩
theorem Bd.trans {s s' s'' : PS} {m n : Nat} (h : Bd T s s' m) (h' : Bd T s' s'' n) : Bd T s s'' (m + n) := ⟨by have := h.1; have := h'.1; omega, fun q => h'.2 (h.2 q)⟩
theorem Bd.le {s s' : PS} {m n : Nat} (h : Bd T s s' m) (hn : n <= m) : Bd T s s' n := ⟨by have := h.1; omega, h.2⟩
theorem vQ (s : PS) (c : Int) : Bd T s (xx T e s c) 0 := by
 unfold xx; split
 ·exact ⟨Nat.le_refl _, fun h => h⟩
 ·exact Bd.refl s
theorem adv_bd {s : PS} (h : s.i < T.length) : Bd T s (advS s) 1 := ⟨Nat.le_refl _, fun _ => h⟩
theorem uh {s : PS} {x : ByteArray} (h : isS T e s x = true) (hx : x.toList ≠ []) : Bd T s (advS s) 1 := adv_bd (xt h hx).2
theorem Y6 {s : PS} {k : Int} (h : (tokS T e s).kind = k) (hk : k ≠ 0) : Bd T s (advS s) 1 := adv_bd (xK (by rw [h]; exact hk)).2
theorem wy (s : PS) {x : ByteArray} (hx : x.toList ≠ []) : Bd T s (xf T e s x) 0 := by
 unfold xf
 split
 ·rename_i h; exact (uh h hx).le (Nat.zero_le _)
 ·exact vQ s 7
theorem ux (s : PS) {k : Int} (hk : k ≠ 0) : Bd T s (xp T e s k).2 0 := by
 unfold xp
 split
 ·rename_i h; exact (Y6 h hk).le (Nat.zero_le _)
 ·exact vQ s 7
theorem deep_bd (s : PS) (b : Bool) : Bd T s (zm T e s b) 0 := by
 unfold zm; split <;> exact vQ _ _
theorem Xa {t : MTok} (h : begT t = true) : t.kind ≠ 0 := by
 intro q
 unfold begT isT sgT at h
 rw [q] at h
 simp only [Int.reduceEq, or_self, decide_false, if_false, Bool.false_or, Bool.or_eq_true, beq_iff_eq] at h
 have : nS.toList = [] := by rw [ByteArray.toList_eq]; rfl
 rw [this] at h
 have n1 := xa (l := [40]) (by simp)
 have n2 := xa (l := [91]) (by simp)
 have n3 := xa (l := [116, 114, 117, 101]) (by simp)
 have n4 := xa (l := [102, 97, 108, 115, 101]) (by simp)
 rcases h with ((h | h) | h) | h
 ·exact n1 h.symm
 ·exact n2 h.symm
 ·exact n3 h.symm
 ·exact n4 h.symm
theorem uf {t : MTok} {L : List ByteArray} (hL : ∀ x ∈ L, x.toList ≠ []) (h : inT t L = true) : t.kind ≠ 0 := by
 unfold inT at h
 rw [List.any_eq_true] at h
 obtain ⟨x, h1, h2⟩ := h
 rw [(Wd h2 (hL x h1)).1]; decide
theorem Wf {t : MTok} (h : tywT t = true) : t.kind ≠ 0 := by
 unfold tywT at h
 rw [Bool.or_eq_true, decide_eq_true_eq] at h
 rcases h with h | h
 ·rw [h]; decide
 ·rw [(Wd h (xa (l := [114, 101, 102]) (by simp))).1]; decide
theorem ty1_len (nm : ByteArray) (a : List TyI) : (ty1 nm [a]).length = 1 + a.length := by simp [ty1]; omega
theorem We (nm : ByteArray) (a b : List TyI) : (ty1 nm [a, b]).length = 1 + a.length + b.length := by simp [ty1]; omega
section
variable {R : PS -> List TyI × PS} (hR : ∀ s, Bd T s (R s).2 (R s).1.length)
include hR
theorem Vv (s : PS) : Bd T s (x8 T e R s).2 (x8 T e R s).1.length := by
 unfold x8
 split
 ·rename_i h5
  split
  ·exact Y6 h5 (by decide)
  ·exact vQ s 7
 ·split
  ·rename_i h3; exact Y6 h3 (by decide)
  ·split
   rename_i a s1 h1
   have b1 := hR (xf T e s (⟨#[40]⟩ : ByteArray))
   rw [h1] at b1
   have b0 := wy (T := T) (e := e) s (xa (l := [40]) (by simp))
   split
   ·rename_i hc
    split
    rename_i b s2 h2
    have b2 := hR (advS s1)
    rw [h2] at b2
    split
    rename_i nm s3 h3
    have b3 := ux (T := T) (e := e) (xf T e s2 (⟨#[41]⟩ : ByteArray)) (k := 3) (by decide)
    rw [h3] at b3
    have b4 := ((b0.trans b1).trans (uh hc (xa (l := [44]) (by simp)))).trans ((b2.trans (wy (T := T) (e := e) s2 (xa (l := [41]) (by simp)))).trans b3)
    refine b4.le ?_
    show (ty1 nm [a, b]).length <= _
    rw [We]
    show 1 + a.length + b.length <= 0 + a.length + 1 + (b.length + 0 + 0)
    omega
   ·exact ((b0.trans b1).trans (wy (T := T) (e := e) s1 (xa (l := [41]) (by simp)))).le (by show a.length <= 0 + a.length + 0; omega)
omit hR in
theorem appl_bd (n : Nat) : ∀ (a : List TyI) (s : PS), s.i + (yu T e n a s).1.length <= (yu T e n a s).2.i + a.length /\ (s.i <= T.length -> (yu T e n a s).2.i <= T.length) /\ s.i <= (yu T e n a s).2.i := by
 induction n with
 | zero => intro a s; exact ⟨Nat.le_refl _, fun h => h, Nat.le_refl _⟩
 | succ n ih =>
  intro a s
  unfold yu
  split
  ·rename_i h
   have h1 := adv_bd (xK (Wf h.2)).2
   obtain ⟨i1, i2, i3⟩ := ih (ty1 (tokS T e s).s [a]) (advS s)
   rw [ty1_len] at i1
   have := h1.1
   refine ⟨by omega, fun q => i2 (h1.2 q), by omega⟩
  ·exact ⟨Nat.le_refl _, fun h => h, Nat.le_refl _⟩
theorem Ug (n : Nat) : ∀ s, Bd T s (yD T e R n s).2 (yD T e R n s).1.length := by
 induction n with
 | zero => intro s; exact Bd.refl s
 | succ n ih =>
  intro s
  unfold yD
  split
  rename_i a0 s0 h0
  have b0 := Vv hR (e := e) s
  rw [h0] at b0
  split
  rename_i a s1 h1
  obtain ⟨i1, i2, i3⟩ := appl_bd (T := T) (e := e) (T.length + 1) a0 s0
  rw [h1] at i1 i2 i3
  have b1 : Bd T s s1 a.length := ⟨by have := b0.1; simp only at this i1; omega, fun q => i2 (b0.2 q)⟩
  split
  ·rename_i hc
   split
   rename_i b s2 h2
   have b2 := ih (advS s1)
   rw [h2] at b2
   refine ((b1.trans (uh hc (xa (l := [42]) (by simp)))).trans b2).le ?_
   show (ty1 _ [a, b]).length <= a.length + 1 + b.length
   rw [We]; omega
  ·exact b1
theorem tyStep_bd (s : PS) : Bd T s (zL T e R s).2 (zL T e R s).1.length := by
 unfold zL
 split
 ·split
  rename_i a s1 h1
  have b1 := Ug hR (e := e) (T.length + 1) s
  rw [h1] at b1
  split
  ·rename_i hc
   split
   rename_i b s2 h2
   have b2 := hR (advS s1)
   rw [h2] at b2
   refine ((b1.trans (uh hc (xa (l := [45, 62]) (by simp)))).trans b2).le ?_
   show (ty1 _ [a, b]).length <= a.length + 1 + b.length
   rw [We]; omega
  ·exact b1
 ·exact Bd.refl s
end
theorem uE (s : PS) (c : Int) : (xx T e s c).vars = s.vars := by unfold xx; split <;> rfl
theorem y8 (s : PS) (x : ByteArray) : (xf T e s x).vars = s.vars := by unfold xf; split; rfl; exact uE _ _
theorem yK (s : PS) (k : Int) : (xp T e s k).2.vars = s.vars := by unfold xp; split; rfl; exact uE _ _
theorem deep_vars (s : PS) (b : Bool) : (zm T e s b).vars = s.vars := by unfold zm; split <;> exact uE _ _
theorem uN (s : PS) : (advS s).vars = s.vars := rfl
section
variable {R : PS -> List TyI × PS} (hR : ∀ s, (R s).2.vars = s.vars)
include hR
theorem XT (s : PS) : (x8 T e R s).2.vars = s.vars := by
 unfold x8
 split
 ·split
  ·rfl
  ·exact uE _ _
 ·split
  ·rfl
  ·split
   rename_i a s1 h1
   have b1 := hR (xf T e s (⟨#[40]⟩ : ByteArray))
   rw [h1, y8] at b1
   split
   ·split
    rename_i b s2 h2
    have b2 := hR (advS s1)
    rw [h2, uN] at b2
    split
    rename_i nm s3 h3
    have b3 := yK (T := T) (e := e) (xf T e s2 (⟨#[41]⟩ : ByteArray)) 3
    rw [h3, y8] at b3
    exact b3.trans (b2.trans b1)
   ·exact (y8 _ _).trans b1
omit hR in
theorem Yv (n : Nat) : ∀ (a : List TyI) (s : PS), (yu T e n a s).2.vars = s.vars := by
 induction n with
 | zero => intro a s; rfl
 | succ n ih =>
  intro a s
  unfold yu
  split
  ·exact ih _ _
  ·rfl
theorem YV (n : Nat) : ∀ s, (yD T e R n s).2.vars = s.vars := by
 induction n with
 | zero => intro s; rfl
 | succ n ih =>
  intro s
  unfold yD
  split
  rename_i a0 s0 h0
  have b0 := XT hR (T := T) (e := e) s
  rw [h0] at b0
  split
  rename_i a s1 h1
  have b1 := Yv (T := T) (e := e) (T.length + 1) a0 s0
  rw [h1] at b1
  split
  ·split
   rename_i b s2 h2
   have b2 := ih (advS s1)
   rw [h2] at b2
   exact b2.trans (b1.trans b0)
  ·exact b1.trans b0
theorem QZ (s : PS) : (zL T e R s).2.vars = s.vars := by
 unfold zL
 split
 ·split
  rename_i a s1 h1
  have b1 := YV hR (T := T) (e := e) (T.length + 1) s
  rw [h1] at b1
  split
  ·split
   rename_i b s2 h2
   have b2 := hR (advS s1)
   rw [h2] at b2
   exact b2.trans b1
  ·exact b1
 ·rfl
end
theorem Up (k : Nat) : ∀ s, (tyF T e k s).2.vars = s.vars := by
 induction k with
 | zero =>
  intro s
  unfold tyF
  split
  ·exact deep_vars s _
  ·rfl
 | succ k ih => intro s; exact QZ ih s
theorem ty_bd (k : Nat) : ∀ s, Bd T s (tyF T e k s).2 (tyF T e k s).1.length := by
 induction k with
 | zero =>
  intro s
  unfold tyF
  split
  ·exact deep_bd s _
  ·exact Bd.refl s
 | succ k ih => intro s; exact tyStep_bd ih s
theorem WG (s : PS) : Bd T s (conS T e s).2 0 := by
 unfold conS
 split
 rename_i nm s1 h1
 have b1 := ux (T := T) (e := e) s (k := 4) (by decide)
 rw [h1] at b1
 split
 ·rename_i hc
  split
  rename_i a s2 h2
  have b2 := ty_bd (T := T) (e := e) 101 (advS s1)
  rw [h2] at b2
  exact ((b1.trans (uh hc (xa (l := [111, 102]) (by simp)))).trans b2).le (Nat.zero_le _)
 ·exact b1
theorem VI (s : PS) : (conS T e s).2.vars = s.vars := by
 unfold conS
 split
 rename_i nm s1 h1
 have b1 := yK (T := T) (e := e) s 4
 rw [h1] at b1
 split
 ·split
  rename_i a s2 h2
  have b2 := Up (T := T) (e := e) 101 (advS s1)
  rw [h2] at b2
  exact b2.trans b1
 ·exact b1
theorem con_arg (s : PS) : (conS T e s).1.arg.length <= (conS T e s).2.i /\ ((conS T e s).1.has = false -> (conS T e s).1.arg = []) := by
 unfold conS
 split
 rename_i nm s1 h1
 split
 ·split
  rename_i a s2 h2
  have b2 := ty_bd (T := T) (e := e) 101 (advS s1)
  rw [h2] at b2
  exact ⟨by have := b2.1; show a.length <= s2.i; simp only at this; omega, fun h => by cases h⟩
 ·exact ⟨Nat.zero_le _, fun _ => rfl⟩
theorem consF1_bd (n : Nat) : ∀ (l : List MCon) (s : PS), Bd T s (yd T e n l s).2 0 := by
 induction n with
 | zero => intro l s; exact Bd.refl s
 | succ n ih =>
  intro l s
  unfold yd
  split
  ·split
   rename_i c s1 h1
   have b1 := WG (T := T) (e := e) s
   rw [h1] at b1
   split
   ·rename_i hc
    exact ((b1.trans (uh hc (xa (l := [124]) (by simp)))).trans (ih _ _)).le (Nat.zero_le _)
   ·exact b1
  ·exact Bd.refl s
theorem Ua (s : PS) : Bd T s (xW T e s).2 0 /\ (xW T e s).2.vars.length <= 2 := by
 unfold xW
 have n0 : Bd T s ⟨s.i, s.code, s.at_, [], s.seen⟩ 0 := ⟨Nat.le_refl _, fun h => h⟩
 have chg : ∀ (q : PS) (v : List Int), Bd T q ⟨q.i, q.code, q.at_, v, q.seen⟩ 0 := fun q v => ⟨Nat.le_refl _, fun h => h⟩
 simp only
 split
 ·rename_i hc
  refine ⟨?_, by show (xp T e _ 3).2.vars.length <= 2; rw [yK]; exact Nat.le_refl _⟩
  have b1 := uh hc (xa (l := [40]) (by simp))
  have b2 := ux (T := T) (e := e) (advS ⟨s.i, s.code, s.at_, [], s.seen⟩) (k := 5) (by decide)
  have b3 := wy (T := T) (e := e) (xp T e (advS ⟨s.i, s.code, s.at_, [], s.seen⟩) 5).2 (xa (l := [44]) (by simp))
  have b13 := ((n0.trans b1).trans b2).trans b3
  have b4 : ∀ (q : PS) (p : Prop) [Decidable p], Bd T q (if p then xx T e q 7 else q) 0 := fun q p _ => by
   split
   ·exact vQ _ _
   ·exact Bd.refl _
  have b14 := b13.trans (b4 _ ((tokS T e (xf T e (xp T e (advS ⟨s.i, s.code, s.at_, [], s.seen⟩) 5).2 (⟨#[44]⟩ : ByteArray))).kind = 5 /\ (tokS T e (xf T e (xp T e (advS ⟨s.i, s.code, s.at_, [], s.seen⟩) 5).2 (⟨#[44]⟩ : ByteArray))).n = (tokS T e (advS ⟨s.i, s.code, s.at_, [], s.seen⟩)).n))
  have b15 := b14.trans (ux (T := T) (e := e) _ (k := 5) (by decide))
  have b16 := b15.trans (wy (T := T) (e := e) _ (xa (l := [41]) (by simp)))
  have b17 := b16.trans (chg _ [(tokS T e (advS ⟨s.i, s.code, s.at_, [], s.seen⟩)).n, (tokS T e (xf T e (xp T e (advS ⟨s.i, s.code, s.at_, [], s.seen⟩) 5).2 (⟨#[44]⟩ : ByteArray))).n])
  exact (b17.trans (ux (T := T) (e := e) _ (k := 3) (by decide))).le (Nat.zero_le _)
 ·split
  ·rename_i h5
   refine ⟨?_, by show (xp T e _ 3).2.vars.length <= 2; rw [yK]; show 1 <= 2; omega⟩
   have b1 := Y6 h5 (by decide)
   have b2 : Bd T s ⟨s.i + 1, s.code, s.at_, [(tokS T e ⟨s.i, s.code, s.at_, [], s.seen⟩).n], s.seen⟩ 1 := ⟨b1.1, b1.2⟩
   exact (b2.trans (ux (T := T) (e := e) _ (k := 3) (by decide))).le (Nat.zero_le _)
  ·refine ⟨?_, by show (xp T e _ 3).2.vars.length <= 2; rw [yK]; exact Nat.zero_le _⟩
   exact (n0.trans (ux (T := T) (e := e) _ (k := 3) (by decide))).le (Nat.zero_le _)
theorem type_bd (s : PS) : Bd T s (zh T e s).2 0 := by
 unfold zh
 split
 rename_i t s1 h1
 have b1 := (Ua (T := T) (e := e) s).1
 rw [h1] at b1
 split
 rename_i l s2 h2
 have b2 := consF1_bd (T := T) (e := e) (T.length + 1) [] (xf T e s1 (⟨#[61]⟩ : ByteArray))
 rw [h2] at b2
 exact (((b1.trans (wy (T := T) (e := e) _ (xa (l := [61]) (by simp)))).trans b2).trans (wy (T := T) (e := e) _ (xa (l := [59]) (by simp)))).le (Nat.zero_le _)
end
section
variable {T : List MTok} {e : Int}
def Mo (T : List MTok) (s s' : PS) : Prop := s.i <= s'.i /\ (s.i <= T.length -> s'.i <= T.length) /\ (s.seen.length <= s.i -> s'.seen.length <= s'.i) /\ (s'.code = 0 -> s.code = 0)
theorem Mo.refl (s : PS) : Mo T s s := ⟨Nat.le_refl _, fun h => h, fun h => h, fun h => h⟩
theorem Mo.trans {s s' s'' : PS} (h : Mo T s s') (h' : Mo T s' s'') : Mo T s s'' := ⟨Nat.le_trans h.1 h'.1, fun q => h'.2.1 (h.2.1 q), fun q => h'.2.2.1 (h.2.2.1 q), fun q => h.2.2.2 (h'.2.2.2 q)⟩
theorem Mo.fault (s : PS) (c : Int) : Mo T s (xx T e s c) := by
 unfold xx
 split
 ·rename_i h; exact ⟨Nat.le_refl _, fun h => h, fun h => h, fun _ => h⟩
 ·exact Mo.refl s
theorem Mo.adv {s : PS} (h : s.i < T.length) : Mo T s (advS s) := ⟨Nat.le_succ _, fun _ => h, fun q => Nat.le_succ_of_le q, fun q => q⟩
theorem Mo.advS {s : PS} {x : ByteArray} (h : isS T e s x = true) (hx : x.toList ≠ []) : Mo T s (advS s) := Mo.adv (xt h hx).2
theorem Mo.advK {s : PS} {k : Int} (h : (tokS T e s).kind = k) (hk : k ≠ 0) : Mo T s (Go.Proofs.YtgcdbmcoendcdaaGreat.advS s) := Mo.adv (xK (by rw [h]; exact hk)).2
theorem Mo.take (s : PS) {x : ByteArray} (hx : x.toList ≠ []) : Mo T s (xf T e s x) := by
 unfold xf
 split
 ·rename_i h; exact Mo.advS h hx
 ·exact Mo.fault s 7
theorem Mo.word (s : PS) {k : Int} (hk : k ≠ 0) : Mo T s (xp T e s k).2 := by
 unfold xp
 split
 ·rename_i h; exact Mo.advK h hk
 ·exact Mo.fault s 7
theorem Mo.deep (s : PS) (b : Bool) : Mo T s (zm T e s b) := by unfold zm; split <;> exact Mo.fault _ _
theorem Mo.push {s : PS} (h : s.i < T.length) (x : ByteArray) : Mo T s (pushS s x) := ⟨Nat.le_succ _, fun _ => h, fun q => by show (s.seen ++ [x]).length <= s.i + 1; rw [List.length_append]; simpa using q, fun q => q⟩
theorem Mo.unseen (s : PS) : Mo T s (zr s) := ⟨Nat.le_refl _, fun h => h, fun _ => Nat.zero_le _, fun q => q⟩
theorem yg (s : PS) : (advS s).i = s.i + 1 := rfl
theorem XJ (k n : Int) (s : ByteArray) (l : List PT) : (pN k n s l).size = 1 + sizeL l := by unfold pN; rw [size_mk]
theorem yc (k a : Int) (s : ByteArray) (l : List ET) : (eN k a s l).size = 1 + sizeL l := by unfold eN; rw [size_mk]
theorem sz1 {α : Type} (a : Arb α) : sizeL [a] = a.size := by rw [sizeL_cons, sizeL_nil, Nat.add_zero]
theorem sz2 {α : Type} (a b : Arb α) : sizeL [a, b] = a.size + b.size := by rw [sizeL_cons, sz1]
theorem sz3 {α : Type} (a b c : Arb α) : sizeL [a, b, c] = a.size + b.size + c.size := by rw [sizeL_cons, sz2, Nat.add_assoc]
def PB (T : List MTok) (s : PS) (r : PT × PS) : Prop := Mo T s r.2 /\ r.1.size + 3 * s.i <= 3 * r.2.i + 1
def EB (T : List MTok) (s : PS) (r : ET × PS) : Prop := Mo T s r.2 /\ r.1.size + 6 * s.i <= 6 * r.2.i + 1
theorem PB.leaf {s s' : PS} (h : Mo T s s') (k n : Int) (x : ByteArray) : PB T s (pN k n x [], s') := ⟨h, by have := h.1; rw [XJ, sizeL_nil]; simp only; omega⟩
theorem PB.p0 {s s' : PS} (h : Mo T s s') : PB T s (P0, s') := PB.leaf h 0 0 nS
section
variable {R : PS -> PT × PS} (hR : ∀ s, PB T s (R s))
include hR
omit hR in
theorem iteP {c : Prop} [Decidable c] {s : PS} {a b : PT × PS} (h1 : c -> PB T s a) (h2 : ¬ c -> PB T s b) : PB T s (if c then a else b) := by
 by_cases h : c
 ·rw [if_pos h]; exact h1 h
 ·rw [if_neg h]; exact h2 h
theorem patom_b (n : Nat) : ∀ s, PB T s (z8 T e R n s) := by
 induction n with
 | zero => intro s; exact PB.p0 (Mo.refl s)
 | succ n ih =>
  intro s
  rw [z8]
  refine iteP (fun h3 => iteP (fun _ => PB.p0 (Mo.fault s 8)) (fun _ => PB.leaf (Mo.push (xK (by rw [h3]; decide)).2 _) _ _ _)) (fun _ => ?_)
  refine iteP (fun h1 => PB.leaf (Mo.advK h1 (by decide)) _ _ _) (fun _ => ?_)
  refine iteP (fun h4 => ?_) (fun _ => ?_)
  ·have m1 := Mo.advK h4 (by decide)
   refine iteP (fun _ => ?_) (fun _ => PB.leaf m1 _ _ _)
   have b := ih (advS s)
   rcases h : z8 T e R n (advS s) with ⟨a, s1⟩
   rw [h] at b
   obtain ⟨b1, b2⟩ := b
   refine ⟨m1.trans b1, ?_⟩
   have q1 := b1.1
   rw [yg] at b2 q1
   show (pN _ _ _ _).size + 3 * s.i <= 3 * s1.i + 1
   rw [XJ, sz1]
   simp only at b2 q1
   omega
  refine iteP (fun h => PB.leaf (Mo.advS h (xa (l := [95]) (by simp))) _ _ _) (fun _ => ?_)
  refine iteP (fun h => PB.leaf (Mo.advS h (xa (l := [116, 114, 117, 101]) (by simp))) _ _ _) (fun _ => ?_)
  refine iteP (fun h => PB.leaf (Mo.advS h (xa (l := [102, 97, 108, 115, 101]) (by simp))) _ _ _) (fun _ => ?_)
  refine iteP (fun h => PB.leaf ((Mo.advS h (xa (l := [91]) (by simp))).trans (Mo.take _ (xa (l := [93]) (by simp)))) _ _ _) (fun _ => ?_)
  refine iteP (fun h => PB.leaf ((Mo.advS h (xa (l := [45]) (by simp))).trans (Mo.word _ (by decide))) _ _ _) (fun _ => ?_)
  refine iteP (fun h => ?_) (fun _ => PB.p0 (Mo.fault s 7))
  have m1 := Mo.advS h (xa (l := [40]) (by simp))
  refine iteP (fun h2 => PB.leaf (m1.trans (Mo.advS h2 (xa (l := [41]) (by simp)))) _ _ _) (fun _ => ?_)
  have b := hR (advS s)
  rcases h1 : R (advS s) with ⟨a, s1⟩
  rw [h1] at b
  obtain ⟨b1, b2⟩ := b
  have q1 := b1.1
  rw [yg] at b2 q1
  refine iteP (fun h2 => ?_) (fun _ => ?_)
  ·have c := hR (advS s1)
   rcases h3 : R (advS s1) with ⟨b', s2⟩
   rw [h3] at c
   obtain ⟨c1, c2⟩ := c
   have q2 := c1.1
   rw [yg] at c2 q2
   have t := Mo.take (T := T) (e := e) s2 (xa (l := [41]) (by simp))
   refine ⟨((m1.trans b1).trans ((Mo.advS h2 (xa (l := [44]) (by simp))).trans c1)).trans t, ?_⟩
   have := t.1
   show (pN _ _ _ _).size + 3 * s.i <= 3 * (xf T e s2 (⟨#[41]⟩ : ByteArray)).i + 1
   rw [XJ, sz2]
   simp only at *
   omega
  ·have t := Mo.take (T := T) (e := e) s1 (xa (l := [41]) (by simp))
   refine ⟨(m1.trans b1).trans t, ?_⟩
   have := t.1
   simp only at *
   omega
theorem patStep_b (s : PS) : PB T s (uV T e R s) := by
 unfold uV
 split
 ·split
  rename_i a s1 h1
  have b := patom_b hR (e := e) (T.length + 1) s
  rw [h1] at b
  split
  ·rename_i h2
   split
   rename_i b' s2 h3
   have c := hR (advS s1)
   rw [h3] at c
   obtain ⟨b1, b2⟩ := b
   obtain ⟨c1, c2⟩ := c
   rw [yg] at c2
   refine ⟨(b1.trans (Mo.advS h2 (xa (l := [58, 58]) (by simp)))).trans c1, ?_⟩
   have q1 := c1.1
   rw [yg] at q1
   have := b1.1
   show (pN _ _ _ _).size + 3 * s.i <= 3 * s2.i + 1
   rw [XJ, sz1, XJ, sz2]
   simp only at *
   omega
  ·exact b
 ·exact PB.p0 (Mo.refl s)
end
theorem pat_b (k : Nat) : ∀ s, PB T s (patF T e k s) := by
 induction k with
 | zero =>
  intro s
  unfold patF
  split
  ·split
   ·exact PB.p0 (Mo.fault s 8)
   ·exact PB.p0 (Mo.deep s _)
  ·exact PB.p0 (Mo.refl s)
 | succ k ih => intro s; exact patStep_b ih s
theorem EB.leaf {s s' : PS} (h : Mo T s s') (k a : Int) (x : ByteArray) : EB T s (eN k a x [], s') := ⟨h, by have := h.1; rw [yc, sizeL_nil]; simp only; omega⟩
theorem EB.e0 {s s' : PS} (h : Mo T s s') : EB T s (E0, s') := EB.leaf h 0 0 nS
section
variable {R : PS -> ET × PS} (hR : ∀ s, EB T s (R s))
include hR
theorem Xx (s : PS) : EB T s (zg T e R s) := by
 unfold zg
 split
 ·rename_i hb
  have m1 : Mo T s (advS s) := Mo.adv (xK (Xa hb)).2
  split
  ·exact ⟨m1, by have := m1.1; show (Arb.mk _ _).size + _ <= _; rw [size_mk, sizeL_nil]; simp only; omega⟩
  ·split
   ·exact EB.leaf m1 _ _ _
   ·split
    ·exact EB.leaf m1 _ _ _
    ·split
     ·exact EB.leaf m1 _ _ _
     ·split
      ·exact EB.leaf (m1.trans (Mo.take _ (xa (l := [93]) (by simp)))) _ _ _
      ·split
       ·split
        ·rename_i h2; exact EB.leaf (m1.trans (Mo.advS h2 (xa (l := [41]) (by simp)))) _ _ _
        ·split
         rename_i a s1 h1
         have b := hR (advS s)
         rw [h1] at b
         obtain ⟨b1, b2⟩ := b
         rw [yg] at b2
         split
         ·rename_i h2
          split
          rename_i b' s2 h3
          have c := hR (advS s1)
          rw [h3] at c
          obtain ⟨c1, c2⟩ := c
          rw [yg] at c2
          have t := Mo.take (T := T) (e := e) s2 (xa (l := [41]) (by simp))
          refine ⟨((m1.trans b1).trans ((Mo.advS h2 (xa (l := [44]) (by simp))).trans c1)).trans t, ?_⟩
          have := t.1
          have := c1.1
          have := b1.1
          show (eN _ _ _ _).size + _ <= _
          rw [yc, sz2]
          simp only at *
          omega
         ·have t := Mo.take (T := T) (e := e) s1 (xa (l := [41]) (by simp))
          refine ⟨(m1.trans b1).trans t, ?_⟩
          have := t.1
          have := b1.1
          simp only at *
          omega
       ·exact EB.leaf m1 _ _ _
 ·exact EB.e0 (Mo.fault s 7)
theorem Vw {s : PS} (h : begT (tokS T e s) = true) : (zg T e R s).1.size + 6 * s.i + 5 <= 6 * (zg T e R s).2.i /\ s.i < (zg T e R s).2.i := by
 have m1 : Mo T s (advS s) := Mo.adv (xK (Xa h)).2
 have lf : ∀ (s' : PS) (t : ET), Mo T (advS s) s' -> t.size = 1 -> t.size + 6 * s.i + 5 <= 6 * s'.i /\ s.i < s'.i := fun s' t hm ht => by
  have := hm.1
  rw [yg] at this
  omega
 have one : ∀ k a x, (eN k a x []).size = 1 := fun k a x => by rw [yc, sizeL_nil]
 unfold zg
 rw [if_pos h]
 split
 ·exact lf _ _ (Mo.refl _) (by show (Arb.mk _ _).size = 1; rw [size_mk, sizeL_nil])
 ·split
  ·exact lf _ _ (Mo.refl _) (one _ _ _)
  ·split
   ·exact lf _ _ (Mo.refl _) (one _ _ _)
   ·split
    ·exact lf _ _ (Mo.refl _) (one _ _ _)
    ·split
     ·exact lf _ _ (Mo.take _ (xa (l := [93]) (by simp))) (one _ _ _)
     ·split
      ·split
       ·rename_i h2; exact lf _ _ (Mo.advS h2 (xa (l := [41]) (by simp))) (one _ _ _)
       ·split
        rename_i a s1 h1
        have b := hR (advS s)
        rw [h1] at b
        obtain ⟨b1, b2⟩ := b
        have bb := b1.1
        rw [yg] at b2 bb
        split
        ·rename_i h2
         split
         rename_i b' s2 h3
         have c := hR (advS s1)
         rw [h3] at c
         obtain ⟨c1, c2⟩ := c
         have cc := c1.1
         rw [yg] at c2 cc
         have t := (Mo.take (T := T) (e := e) s2 (xa (l := [41]) (by simp))).1
         show (eN _ _ _ _).size + _ + _ <= _ /\ _
         rw [yc, sz2]
         simp only at *
         omega
        ·have t := (Mo.take (T := T) (e := e) s1 (xa (l := [41]) (by simp))).1
         simp only at *
         omega
      ·exact lf _ _ (Mo.refl _) (one _ _ _)
omit hR in
theorem kidT_size (a b : ET) : (kidT a b).size = 1 + b.size := by unfold kidT; rw [size_mk, sz1]
theorem app_b (n : Nat) : ∀ (bare : Bool) (a : ET) (s : PS), Mo T s (appF T e R n bare a s).2 /\ (appF T e R n bare a s).1.size + 6 * s.i <= 6 * (appF T e R n bare a s).2.i + a.size := by
 induction n with
 | zero => intro bare a s; exact ⟨Mo.refl s, by show a.size + 6 * s.i <= 6 * s.i + a.size; omega⟩
 | succ n ih =>
  intro bare a s
  unfold appF
  split
  ·rename_i h
   split
   rename_i b s1 h1
   have m := Xx hR (e := e) s
   have q := Vw hR h.2
   rw [h1] at m q
   obtain ⟨i1, i2⟩ := ih false (if bare = true then kidT a b else eN 6 (tokS T e s).at_ nS [a, b]) s1
   refine ⟨m.1.trans i1, ?_⟩
   have hz : (if bare = true then kidT a b else eN 6 (tokS T e s).at_ nS [a, b]).size <= 1 + a.size + b.size := by
    split
    ·rw [kidT_size]; omega
    ·rw [yc, sz2]; omega
   simp only at *
   omega
  ·exact ⟨Mo.refl s, by show a.size + 6 * s.i <= 6 * s.i + a.size; omega⟩
theorem appS_b (s : PS) : EB T s (appS T e R s) := by
 unfold appS
 split
 rename_i a s1 h1
 have m := Xx hR (e := e) s
 rw [h1] at m
 obtain ⟨i1, i2⟩ := app_b hR (e := e) (T.length + 1) (decide ((tokS T e s).kind = 4)) a s1
 exact ⟨m.1.trans i1, by have := m.2; simp only at *; omega⟩
theorem un_b (n : Nat) : ∀ s, EB T s (unF T e R n s) := by
 induction n with
 | zero => intro s; exact EB.e0 (Mo.refl s)
 | succ n ih =>
  intro s
  have st : ∀ (x : ByteArray) (f : ET -> ET), isS T e s x = true -> x.toList ≠ [] -> (∀ t, (f t).size <= t.size + 3) -> EB T s (match unF T e R n (advS s) with | (a, s1) => (f a, s1)) := fun x f h hx hf => by
   split
   rename_i a s1 h1
   have b := ih (advS s)
   rw [h1] at b
   obtain ⟨b1, b2⟩ := b
   rw [yg] at b2
   refine ⟨(Mo.advS h hx).trans b1, ?_⟩
   have := hf a
   have := b1.1
   simp only at *
   omega
  have one : ∀ k a x (t : ET), (eN k a x [t]).size <= t.size + 3 := fun k a x t => by rw [yc, sz1]; omega
  unfold unF
  split
  ·rename_i h; exact st _ _ h (xa (l := [114, 97, 105, 115, 101]) (by simp)) (one _ _ _)
  ·split
   ·rename_i h; exact st _ _ h (xa (l := [114, 101, 102]) (by simp)) (one _ _ _)
   ·split
    ·rename_i h; exact st _ _ h (xa (l := [33]) (by simp)) (one _ _ _)
    ·split
     ·rename_i h; exact st _ (fun a => eN 10 (tokS T e s).at_ (⟨#[45]⟩ : ByteArray) [eN 1 (tokS T e s).at_ nS [], a]) h (xa (l := [45]) (by simp)) (fun t => by rw [yc, sz2, yc, sizeL_nil]; omega)
     ·exact appS_b hR s
omit hR in
theorem left_b {L : List ByteArray} (hL : ∀ x ∈ L, x.toList ≠ []) {Q : PS -> ET × PS} (hQ : ∀ s, EB T s (Q s)) (n : Nat) : ∀ (a : ET) (s : PS), Mo T s (zo T e L Q n a s).2 /\ (zo T e L Q n a s).1.size + 6 * s.i <= 6 * (zo T e L Q n a s).2.i + a.size := by
 induction n with
 | zero => intro a s; exact ⟨Mo.refl s, by show a.size + 6 * s.i <= 6 * s.i + a.size; omega⟩
 | succ n ih =>
  intro a s
  unfold zo
  split
  ·rename_i h
   have m1 : Mo T s (advS s) := Mo.adv (xK (uf hL h.2)).2
   split
   rename_i b s1 h1
   have q := hQ (advS s)
   rw [h1] at q
   obtain ⟨q1, q2⟩ := q
   rw [yg] at q2
   obtain ⟨i1, i2⟩ := ih (eN 10 (tokS T e s).at_ (tokS T e s).s [a, b]) s1
   refine ⟨(m1.trans q1).trans i1, ?_⟩
   rw [yc, sz2] at i2
   simp only at *
   omega
  ·exact ⟨Mo.refl s, by show a.size + 6 * s.i <= 6 * s.i + a.size; omega⟩
theorem vJ (s : PS) : EB T s (z7 T e R s) := by
 unfold z7
 split
 rename_i a s1 h1
 have m := un_b hR (e := e) (T.length + 1) s
 rw [h1] at m
 obtain ⟨i1, i2⟩ := left_b (T := T) (e := e) (L := [(⟨#[42]⟩ : ByteArray), (⟨#[47]⟩ : ByteArray), (⟨#[37]⟩ : ByteArray)]) (by simp only [List.mem_cons, List.not_mem_nil, or_false, forall_eq_or_imp, forall_eq]; exact ⟨xa (l := [42]) (by simp), xa (l := [47]) (by simp), xa (l := [37]) (by simp)⟩) (un_b hR (T.length + 1)) (T.length + 1) a s1
 exact ⟨m.1.trans i1, by have := m.2; simp only at *; omega⟩
theorem Ue (s : PS) : EB T s (uH T e R s) := by
 unfold uH
 split
 rename_i a s1 h1
 have m := vJ hR (e := e) s
 rw [h1] at m
 obtain ⟨i1, i2⟩ := left_b (T := T) (e := e) (L := [(⟨#[43]⟩ : ByteArray), (⟨#[45]⟩ : ByteArray), (⟨#[94]⟩ : ByteArray)]) (by simp only [List.mem_cons, List.not_mem_nil, or_false, forall_eq_or_imp, forall_eq]; exact ⟨xa (l := [43]) (by simp), xa (l := [45]) (by simp), xa (l := [94]) (by simp)⟩) (vJ hR) (T.length + 1) a s1
 exact ⟨m.1.trans i1, by have := m.2; simp only at *; omega⟩
theorem YB (n : Nat) : ∀ s, EB T s (wl T e R n s) := by
 induction n with
 | zero => intro s; exact EB.e0 (Mo.refl s)
 | succ n ih =>
  intro s
  unfold wl
  split
  rename_i a s1 h1
  have m := Ue hR (e := e) s
  rw [h1] at m
  split
  ·rename_i h2
   split
   rename_i b s2 h3
   have q := ih (advS s1)
   rw [h3] at q
   obtain ⟨q1, q2⟩ := q
   rw [yg] at q2
   refine ⟨(m.1.trans (Mo.advS h2 (xa (l := [58, 58]) (by simp)))).trans q1, ?_⟩
   have := m.2
   unfold consT
   show (eN _ _ _ _).size + _ <= _
   rw [yc, sz1, yc, sz2]
   simp only at *
   omega
  ·exact m
theorem cmp_b (s : PS) : EB T s (cmpS T e R s) := by
 unfold cmpS
 split
 rename_i a s1 h1
 have m := YB hR (e := e) (T.length + 1) s
 rw [h1] at m
 split
 ·rename_i h2
  have m1 : Mo T s1 (advS s1) := Mo.adv (xK (uf (by simp only [List.mem_cons, List.not_mem_nil, or_false, forall_eq_or_imp, forall_eq]; exact ⟨xa (l := [61]) (by simp), xa (l := [60, 62]) (by simp), xa (l := [60]) (by simp), xa (l := [60, 61]) (by simp)⟩) h2)).2
  split
  rename_i b s2 h3
  have q := YB hR (e := e) (T.length + 1) (advS s1)
  rw [h3] at q
  obtain ⟨q1, q2⟩ := q
  rw [yg] at q2
  refine ⟨(m.1.trans m1).trans q1, ?_⟩
  have := m.2
  show (eN _ _ _ _).size + _ <= _
  rw [yc, sz2]
  simp only at *
  omega
 ·exact m
theorem set_b (n : Nat) : ∀ s, EB T s (setF T e R n s) := by
 induction n with
 | zero => intro s; exact EB.e0 (Mo.refl s)
 | succ n ih =>
  intro s
  unfold setF
  split
  rename_i a s1 h1
  have m := cmp_b hR (e := e) s
  rw [h1] at m
  split
  ·rename_i h2
   split
   rename_i b s2 h3
   have q := ih (advS s1)
   rw [h3] at q
   obtain ⟨q1, q2⟩ := q
   rw [yg] at q2
   refine ⟨(m.1.trans (Mo.advS h2 (xa (l := [58, 61]) (by simp)))).trans q1, ?_⟩
   have := m.2
   show (eN _ _ _ _).size + _ <= _
   rw [yc, sz2]
   simp only at *
   omega
  ·exact m
theorem arms_b (n : Nat) : ∀ (qs : List MPat) (l : List ET) (s : PS), Mo T s (zl T e R n qs l s).2.2 /\ sizeL (zl T e R n qs l s).2.1 + 6 * s.i <= 6 * (zl T e R n qs l s).2.2.i + 1 + sizeL l := by
 induction n with
 | zero => intro qs l s; exact ⟨Mo.refl s, by show sizeL l + 6 * s.i <= 6 * s.i + 1 + sizeL l; omega⟩
 | succ n ih =>
  intro qs l s
  unfold zl
  split
  ·split
   rename_i p s1 h1
   have m := (pat_b (T := T) (e := e) 101 (zr s)).1
   rw [h1] at m
   split
   rename_i b s2 h2
   have t := Mo.take (T := T) (e := e) s1 (xa (l := [45, 62]) (by simp))
   have q := hR (xf T e s1 (⟨#[45, 62]⟩ : ByteArray))
   rw [h2] at q
   have mm := (((Mo.unseen (T := T) s).trans m).trans t).trans q.1
   have g1 := mm.1
   have g2 := ((Mo.unseen (T := T) s).trans m).trans t
   have g3 := g2.1
   split
   ·rename_i h3
    obtain ⟨i1, i2⟩ := ih (qs ++ [layP p]) (l ++ [b]) (advS s2)
    refine ⟨(mm.trans (Mo.advS h3 (xa (l := [124]) (by simp)))).trans i1, ?_⟩
    rw [sizeL_app, sz1, yg] at i2
    have := q.2
    simp only at *
    omega
   ·refine ⟨mm, ?_⟩
    have := q.2
    show sizeL (l ++ [b]) + _ <= _
    rw [sizeL_app, sz1]
    simp only at *
    omega
  ·exact ⟨Mo.refl s, by show sizeL l + 6 * s.i <= 6 * s.i + 1 + sizeL l; omega⟩
theorem match_b (at_ : Int) (s : PS) : Mo T s (wI T e R at_ s).2 /\ (wI T e R at_ s).1.size + 6 * s.i <= 6 * (wI T e R at_ s).2.i + 3 := by
 unfold wI
 split
 rename_i a s1 h1
 have m := hR s
 rw [h1] at m
 split
 rename_i qs l s2 h2
 have t1 := Mo.take (T := T) (e := e) s1 (xa (l := [119, 105, 116, 104]) (by simp))
 have q := arms_b hR (e := e) (T.length + 1) [] [a] (xf T e s1 (⟨#[119, 105, 116, 104]⟩ : ByteArray))
 rw [h2] at q
 have t2 := Mo.take (T := T) (e := e) s2 (xa (l := [101, 110, 100]) (by simp))
 refine ⟨((m.1.trans t1).trans q.1).trans t2, ?_⟩
 have g1 := m.2
 have g2 := q.2
 have g3 := t1.1
 have g4 := t2.1
 rw [sz1] at g2
 show (Arb.mk _ _).size + _ <= _
 rw [size_mk]
 simp only at *
 omega
omit hR in
theorem iteE {c : Prop} [Decidable c] {s : PS} {a b : ET × PS} (h1 : c -> EB T s a) (h2 : ¬ c -> EB T s b) : EB T s (if c then a else b) := by
 by_cases h : c
 ·rw [if_pos h]; exact h1 h
 ·rw [if_neg h]; exact h2 h
omit hR in
theorem XN {s s1 : PS} {k : Int} {x : ByteArray} (hk : k ≠ 0) (h : xp T e s k = (x, s1)) : Mo T s s1 := by
 have := Mo.word (T := T) (e := e) s hk
 rw [h] at this; exact this
theorem xap (s : PS) : EB T s (ue T e R s) := by
 unfold ue
 refine iteE (fun _ => ?_) (fun _ => EB.e0 (Mo.refl s))
 refine iteE (fun h => ?_) (fun _ => ?_)
 ·have m0 := Mo.advS h (xa (l := [102, 117, 110]) (by simp))
  split
  rename_i x s1 h1
  have m1 := XN (by decide) h1
  have m2 := Mo.take (T := T) (e := e) s1 (xa (l := [45, 62]) (by simp))
  split
  rename_i b s2 h2
  have q := hR (xf T e s1 (⟨#[45, 62]⟩ : ByteArray))
  rw [h2] at q
  refine ⟨((m0.trans m1).trans m2).trans q.1, ?_⟩
  have g0 := yg s
  have g1 := m1.1
  have g2 := m2.1
  have g3 := q.2
  show (eN _ _ _ _).size + _ <= _
  rw [yc, sz1]
  simp only at *
  omega
 refine iteE (fun h => ?_) (fun _ => ?_)
 ·have m0 := Mo.advS h (xa (l := [108, 101, 116]) (by simp))
  have g0 := yg s
  refine iteE (fun h' => ?_) (fun _ => ?_)
  ·have m00 := Mo.advS h' (xa (l := [114, 101, 99]) (by simp))
   have g00 := yg (advS s)
   split
   rename_i f s1 h1
   have m1 := XN (by decide) h1
   split
   rename_i x s2 h2
   have m2 := XN (by decide) h2
   have m3 := Mo.take (T := T) (e := e) s2 (xa (l := [61]) (by simp))
   split
   rename_i a s3 h3
   have q3 := hR (xf T e s2 (⟨#[61]⟩ : ByteArray))
   rw [h3] at q3
   have m4 := Mo.take (T := T) (e := e) s3 (xa (l := [105, 110]) (by simp))
   split
   rename_i b s4 h4
   have q4 := hR (xf T e s3 (⟨#[105, 110]⟩ : ByteArray))
   rw [h4] at q4
   refine ⟨((((((m0.trans m00).trans m1).trans m2).trans m3).trans q3.1).trans m4).trans q4.1, ?_⟩
   have g1 := m1.1
   have g2 := m2.1
   have g3 := m3.1
   have g4 := m4.1
   have g5 := q3.2
   have g6 := q4.2
   show (eN _ _ _ _).size + _ <= _
   rw [yc, sz2, yc, sz1]
   simp only at *
   omega
  ·split
   rename_i x s1 h1
   have m1 := XN (by decide) h1
   have m2 := Mo.take (T := T) (e := e) s1 (xa (l := [61]) (by simp))
   split
   rename_i a s2 h2
   have q3 := hR (xf T e s1 (⟨#[61]⟩ : ByteArray))
   rw [h2] at q3
   have m4 := Mo.take (T := T) (e := e) s2 (xa (l := [105, 110]) (by simp))
   split
   rename_i b s3 h3
   have q4 := hR (xf T e s2 (⟨#[105, 110]⟩ : ByteArray))
   rw [h3] at q4
   refine ⟨((((m0.trans m1).trans m2).trans q3.1).trans m4).trans q4.1, ?_⟩
   have g1 := m1.1
   have g2 := m2.1
   have g4 := m4.1
   have g5 := q3.2
   have g6 := q4.2
   show (eN _ _ _ _).size + _ <= _
   rw [yc, sz2]
   simp only at *
   omega
 refine iteE (fun h => ?_) (fun _ => ?_)
 ·have m0 := Mo.advS h (xa (l := [105, 102]) (by simp))
  have g0 := yg s
  split
  rename_i a s1 h1
  have q1 := hR (advS s)
  rw [h1] at q1
  have m2 := Mo.take (T := T) (e := e) s1 (xa (l := [116, 104, 101, 110]) (by simp))
  split
  rename_i b s2 h2
  have q2 := hR (xf T e s1 (⟨#[116, 104, 101, 110]⟩ : ByteArray))
  rw [h2] at q2
  have m3 := Mo.take (T := T) (e := e) s2 (xa (l := [101, 108, 115, 101]) (by simp))
  split
  rename_i d s3 h3
  have q3 := hR (xf T e s2 (⟨#[101, 108, 115, 101]⟩ : ByteArray))
  rw [h3] at q3
  refine ⟨((((m0.trans q1.1).trans m2).trans q2.1).trans m3).trans q3.1, ?_⟩
  have g1 := q1.2
  have g2 := m2.1
  have g3 := q2.2
  have g4 := m3.1
  have g5 := q3.2
  show (eN _ _ _ _).size + _ <= _
  rw [yc, sz3]
  simp only at *
  omega
 refine iteE (fun h => ?_) (fun _ => ?_)
 ·have m0 := Mo.advS h (xa (l := [109, 97, 116, 99, 104]) (by simp))
  have g0 := yg s
  have q := match_b hR (e := e) (tokS T e s).at_ (advS s)
  refine ⟨m0.trans q.1, ?_⟩
  have := q.2
  omega
 refine iteE (fun h => ?_) (fun _ => ?_)
 ·have m0 := Mo.advS h (xa (l := [116, 114, 121]) (by simp))
  have g0 := yg s
  split
  rename_i a s1 h1
  have q1 := hR (advS s)
  rw [h1] at q1
  have m2 := Mo.take (T := T) (e := e) s1 (xa (l := [119, 105, 116, 104]) (by simp))
  split
  rename_i x s2 h2
  have m3 := XN (by decide) h2
  have m4 := Mo.take (T := T) (e := e) s2 (xa (l := [45, 62]) (by simp))
  split
  rename_i b s3 h3
  have q3 := hR (xf T e s2 (⟨#[45, 62]⟩ : ByteArray))
  rw [h3] at q3
  have m5 := Mo.take (T := T) (e := e) s3 (xa (l := [101, 110, 100]) (by simp))
  refine ⟨(((((m0.trans q1.1).trans m2).trans m3).trans m4).trans q3.1).trans m5, ?_⟩
  have g1 := q1.2
  have g2 := m2.1
  have g3 := m3.1
  have g4 := m4.1
  have g5 := q3.2
  have g6 := m5.1
  show (eN _ _ _ _).size + _ <= _
  rw [yc, sz2]
  simp only at *
  omega
 split
 rename_i a s1 h1
 have m := set_b hR (e := e) (T.length + 1) s
 rw [h1] at m
 refine iteE (fun h => ?_) (fun _ => m)
 have m0 := Mo.advS h (xa (l := [59]) (by simp))
 have g0 := yg s1
 split
 rename_i b s2 h2
 have q := hR (advS s1)
 rw [h2] at q
 refine ⟨(m.1.trans m0).trans q.1, ?_⟩
 have g1 := m.2
 have g2 := q.2
 show (eN _ _ _ _).size + _ <= _
 rw [yc, sz2]
 simp only at *
 omega
end
theorem WJ (k : Nat) : ∀ s, EB T s (uC T e k s) := by
 induction k with
 | zero =>
  intro s
  unfold uC
  exact iteE (fun _ => EB.e0 (Mo.deep s _)) (fun _ => EB.e0 (Mo.refl s))
 | succ k ih => exact fun s => xap ih s
end
end Go.Proofs.YtgcdbmcoendcdaaGreat
namespace Go.Proofs.YtgcdbmcoendcdaaGreat
theorem txtO_rng {l : List UInt8} {n : Int} (h : txtO l = some n) : -4611686018427387904 <= n /\ n <= 4611686018427387904 := by
 unfold txtO at h
 split at h
 ·rename_i q
  injection h with h
  have hs := q.2.choose_spec
  rw [h] at hs
  by_cases hr : -4611686018427387904 <= n /\ n <= 4611686018427387903
  ·exact ⟨hr.1, by omega⟩
  ·rw [VY hr] at hs
   exact absurd hs.symm q.1
 ·cases h
def nOk (t : MTok) : Prop := -4611686018427387904 <= t.n /\ t.n <= 4611686018427387904
theorem nOk0 (k : Int) (s : ByteArray) (a : Int) : nOk ⟨k, 0, s, a⟩ := ⟨by show (-4611686018427387904 : Int) <= 0; omega, by show (0 : Int) <= 4611686018427387904; omega⟩
theorem tokM_n (s : ByteArray) (i : Nat) : nOk (tokM s i).1 := by
 unfold tokM
 split
 ·split
  ·exact nOk0 _ _ _
  ·rename_i n h; exact txtO_rng h
 ·split
  ·split
   ·exact nOk0 _ _ _
   ·split
    ·exact nOk0 _ _ _
    ·split <;> exact nOk0 _ _ _
  ·split
   ·rename_i h
    have hl := h.2.2
    unfold lowI at hl
    simp only [Bool.and_eq_true, decide_eq_true_eq] at hl
    exact ⟨by show (-4611686018427387904 : Int) <= bAt s (i + 1) - 97; omega, by show bAt s (i + 1) - 97 <= (4611686018427387904 : Int); omega⟩
   ·split
    ·split
     ·exact nOk0 _ _ _
     ·split <;> exact nOk0 _ _ _
    ·split <;> exact nOk0 _ _ _
theorem X8 (s : ByteArray) : ∀ (f i : Nat) (acc : List MTok), acc.length <= i -> i <= s.size -> (∀ t ∈ acc, nOk t) -> (lexF s f i acc).1.length <= s.size /\ ∀ t ∈ (lexF s f i acc).1, nOk t
 | 0, i, acc, h1, h2, h3 => ⟨Nat.le_trans h1 h2, h3⟩
 | f + 1, i, acc, h1, h2, h3 => by
  by_cases hi : s.size <= i
  ·rw [ZV hi]; exact ⟨Nat.le_trans h1 h2, h3⟩
  ·have hi : i < s.size := by omega
   cases hb : wD (bAt s i) with
   | true => rw [X9 hi hb]; exact X8 s f (i + 1) acc (by omega) (by omega) h3
   | false =>
    cases hl : hasM s lpB i with
    | true =>
     cases hr : remM s i with
     | none => rw [Ya hi hb hl hr]; exact ⟨Nat.zero_le _, fun t ht => by cases ht⟩
     | some j =>
      have := remM_bd hr
      rw [ZW hi hb hl hr]; exact X8 s f j acc (by omega) (by omega) h3
    | false =>
     by_cases hc : (tokM s i).2.2 = 0
     ·have hd := tokM_bd hi hc
      rw [ZX hi hb hl hc]
      refine X8 s f _ _ (by rw [List.length_append, List.length_singleton]; omega) (by omega) (fun t ht => ?_)
      rcases List.mem_append.1 ht with q | q
      ·exact h3 t q
      ·rw [List.mem_singleton.1 q]; exact tokM_n s i
     ·rw [ZU hi hb hl hc]; exact ⟨Nat.zero_le _, fun t ht => by cases ht⟩
theorem ZY (s : ByteArray) : (lexM s).1.length <= 4000 /\ ∀ t ∈ (lexM s).1, nOk t := by
 unfold lexM
 split
 ·rename_i h
  have := X8 s s.size 0 [] (Nat.zero_le _) (Nat.zero_le _) (fun t ht => by cases ht)
  exact ⟨Nat.le_trans this.1 h, this.2⟩
 ·exact ⟨Nat.zero_le _, fun t ht => by cases ht⟩
end Go.Proofs.YtgcdbmcoendcdaaGreat
namespace Go.Proofs.YtgcdbmcoendcdaaGreat
open Arb
inductive AllT {α : Type} (P : α -> Prop) : Arb α -> Prop where
 | mk {a : α} {l : List (Arb α)} : P a -> (∀ x ∈ l, AllT P x) -> AllT P (.mk a l)
theorem AllT.lab {α : Type} {P : α -> Prop} {t : Arb α} (h : AllT P t) : P t.a := by cases h; assumption
theorem AllT.lay {α β : Type} {P : α -> Prop} (f : α -> List Int -> β) : ∀ t : Arb α, AllT P t -> ∀ b : Nat, ∀ x ∈ Arb.lay f b t, ∃ a ks, x = f a ks /\ P a /\ ks.length <= t.size /\ ∀ k ∈ ks, 0 <= k /\ k <= (b + t.size : Nat) := fun t => by
 induction t using Arb.ind with
 | h a l ih =>
  intro h b x hx
  cases h with
  | mk ha hl =>
   rw [lay_mk] at hx
   have hLL : ∀ (r : List (Arb α)) (c : Nat), (∀ y ∈ r, y ∈ l) -> ∀ x ∈ layL f c r, ∃ a ks, x = f a ks /\ P a /\ ks.length <= sizeL r /\ ∀ k ∈ ks, 0 <= k /\ k <= (c + sizeL r : Nat) := by
    intro r
    induction r with
    | nil => intro c _ x hx; rw [layL_nil] at hx; cases hx
    | cons y r ihr =>
     intro c hy x hx
     rw [layL_cons] at hx
     rw [sizeL_cons]
     rcases List.mem_append.1 hx with q | q
     ·obtain ⟨a', ks, h1, h2, h3, h4⟩ := ih y (hy y (List.mem_cons_self ..)) (hl y (hy y (List.mem_cons_self ..))) c x q
      exact ⟨a', ks, h1, h2, by omega, fun k hk => ⟨(h4 k hk).1, by have := (h4 k hk).2; omega⟩⟩
     ·obtain ⟨a', ks, h1, h2, h3, h4⟩ := ihr (c + y.size) (fun z hz => hy z (List.mem_cons_of_mem _ hz)) x q
      exact ⟨a', ks, h1, h2, by omega, fun k hk => ⟨(h4 k hk).1, by have := (h4 k hk).2; omega⟩⟩
   have hidx : ∀ (r : List (Arb α)) (c : Nat), ∀ k ∈ idxs c r, 0 <= k /\ k <= (c + sizeL r : Nat) := by
    intro r
    induction r with
    | nil => intro c k hk; cases hk
    | cons y r ihr =>
     intro c k hk
     rw [sizeL_cons]
     rcases List.mem_cons.1 hk with q | q
     ·subst q; exact ⟨by omega, by omega⟩
     ·have := ihr (c + y.size) k q
      exact ⟨this.1, by have := this.2; omega⟩
   rw [size_mk]
   rcases List.mem_cons.1 hx with q | q
   ·refine ⟨a, _, q, ha, ?_, fun k hk => ?_⟩
    ·have h1 := idxs_len (b + 1) l
     have h2 := sizeL_len l
     omega
    ·have := hidx l (b + 1) k hk
     exact ⟨this.1, by have := this.2; omega⟩
   ·obtain ⟨a', ks, h1, h2, h3, h4⟩ := hLL l (b + 1) (fun _ h => h) x q
    exact ⟨a', ks, h1, h2, by omega, fun k hk => ⟨(h4 k hk).1, by have := (h4 k hk).2; omega⟩⟩
def TB (t : MTok) : Prop := I64 t.at_ /\ (-4611686018427387904 <= t.n /\ t.n <= 4611686018427387904) /\ t.s.size <= 4000
def PIOk (a : PI) : Prop := I64 a.kind /\ I64 a.n /\ a.s.size <= 4000
def EOk (a : EI) : Prop := I64 a.kind /\ I64 a.at_ /\ I64 a.n /\ a.s.size <= 4000 /\ a.pats.length <= 20000 /\ ∀ q ∈ a.pats, q.ok /\ q.sm
theorem i64c {k : Int} (h0 : -1000 <= k) (h1 : k <= 1000) : I64 k := ⟨by omega, by omega⟩
theorem z64 : I64 0 := i64c (by omega) (by omega)
theorem xP : nS.size <= 4000 := by decide
theorem p_mk {k n : Int} {s : ByteArray} {l : List PT} (hk : -1000 <= k /\ k <= 1000) (hn : I64 n) (hs : s.size <= 4000) (hl : ∀ x ∈ l, AllT PIOk x) : AllT PIOk (pN k n s l) := .mk ⟨i64c hk.1 hk.2, hn, hs⟩ hl
theorem e_mk {k a : Int} {s : ByteArray} {l : List ET} (hk : -1000 <= k /\ k <= 1000) (ha : I64 a) (hs : s.size <= 4000) (hl : ∀ x ∈ l, AllT EOk x) : AllT EOk (eN k a s l) := .mk ⟨i64c hk.1 hk.2, ha, z64, hs, Nat.zero_le _, fun q hq => by cases hq⟩ hl
theorem xF {α : Type} {P : α -> Prop} : ∀ x ∈ ([] : List α), P x := fun x h => by cases h
theorem mem1 {α : Type} {P : α -> Prop} {a : α} (h : P a) : ∀ x ∈ [a], P x := fun x hx => by rw [List.mem_singleton.1 hx]; exact h
theorem mem2 {α : Type} {P : α -> Prop} {a b : α} (h : P a) (h' : P b) : ∀ x ∈ [a, b], P x := fun x hx => by
 rcases List.mem_cons.1 hx with q | q
 ·rw [q]; exact h
 ·exact mem1 h' x q
theorem mem3 {α : Type} {P : α -> Prop} {a b c : α} (h : P a) (h' : P b) (h'' : P c) : ∀ x ∈ [a, b, c], P x := fun x hx => by
 rcases List.mem_cons.1 hx with q | q
 ·rw [q]; exact h
 ·exact mem2 h' h'' x q
theorem P0_o : AllT PIOk P0 := p_mk (by omega) (i64c (by omega) (by omega)) xP xF
theorem E0_o : AllT EOk E0 := e_mk (by omega) (i64c (by omega) (by omega)) xP xF
section
variable {T : List MTok} {e : Int} (hT : ∀ t ∈ T, TB t) (he : I64 e)
include hT he
theorem za (s : PS) : TB (tokS T e s) := by
 unfold tokS
 split
 ·rename_i h
  rw [List.getD_eq_getElem?_getD, List.getElem?_eq_getElem h.2, Option.getD_some]
  exact hT _ (List.getElem_mem h.2)
 ·exact ⟨he, ⟨by show (-4611686018427387904 : Int) <= 0; omega, by show (0 : Int) <= 4611686018427387904; omega⟩, xP⟩
theorem n_o (s : PS) : I64 (tokS T e s).n := by have := (za hT he s).2.1; exact ⟨by omega, by omega⟩
theorem nn_o (s : PS) : I64 (-(tokS T e s).n) := by have := (za hT he s).2.1; exact ⟨by omega, by omega⟩
omit hT he in
theorem iteQ {c : Prop} [Decidable c] {a b : PT × PS} (h1 : c -> AllT PIOk a.1) (h2 : ¬ c -> AllT PIOk b.1) : AllT PIOk (if c then a else b).1 := by
 by_cases h : c
 ·rw [if_pos h]; exact h1 h
 ·rw [if_neg h]; exact h2 h
section
variable {R : PS -> PT × PS} (hR : ∀ s, AllT PIOk (R s).1)
include hR
theorem patom_o (n : Nat) : ∀ s, AllT PIOk (z8 T e R n s).1 := by
 induction n with
 | zero => intro s; exact P0_o
 | succ n ih =>
  intro s
  have ht := za hT he s
  have z0 : I64 0 := i64c (by omega) (by omega)
  rw [z8]
  refine iteQ (fun _ => iteQ (fun _ => P0_o) (fun _ => p_mk (by omega) z0 ht.2.2 xF)) (fun _ => ?_)
  refine iteQ (fun _ => p_mk (by omega) (n_o hT he s) xP xF) (fun _ => ?_)
  refine iteQ (fun _ => iteQ (fun _ => ?_) (fun _ => p_mk (by omega) z0 ht.2.2 xF)) (fun _ => ?_)
  ·have b := ih (advS s)
   rcases h : z8 T e R n (advS s) with ⟨a, s1⟩
   rw [h] at b
   exact p_mk (by omega) z0 ht.2.2 (mem1 b)
  refine iteQ (fun _ => p_mk (by omega) z0 xP xF) (fun _ => ?_)
  refine iteQ (fun _ => p_mk (by omega) z0 (by decide) xF) (fun _ => ?_)
  refine iteQ (fun _ => p_mk (by omega) z0 (by decide) xF) (fun _ => ?_)
  refine iteQ (fun _ => p_mk (by omega) z0 (by decide) xF) (fun _ => ?_)
  refine iteQ (fun _ => p_mk (by omega) (nn_o hT he _) xP xF) (fun _ => ?_)
  refine iteQ (fun _ => iteQ (fun _ => p_mk (by omega) z0 xP xF) (fun _ => ?_)) (fun _ => P0_o)
  have b := hR (advS s)
  rcases h1 : R (advS s) with ⟨a, s1⟩
  rw [h1] at b
  refine iteQ (fun _ => ?_) (fun _ => b)
  have c := hR (advS s1)
  rcases h3 : R (advS s1) with ⟨b', s2⟩
  rw [h3] at c
  exact p_mk (by omega) z0 xP (mem2 b c)
theorem patStep_o (s : PS) : AllT PIOk (uV T e R s).1 := by
 have z0 : I64 0 := i64c (by omega) (by omega)
 unfold uV
 refine iteQ (fun _ => ?_) (fun _ => P0_o)
 have a := patom_o hT he hR (T.length + 1) s
 rcases h1 : z8 T e R (T.length + 1) s with ⟨p, s1⟩
 rw [h1] at a
 refine iteQ (fun _ => ?_) (fun _ => a)
 have b := hR (advS s1)
 rcases h2 : R (advS s1) with ⟨q, s2⟩
 rw [h2] at b
 exact p_mk (by omega) z0 (by decide) (mem1 (p_mk (by omega) z0 xP (mem2 a b)))
end
theorem pat_o (k : Nat) : ∀ s, AllT PIOk (patF T e k s).1 := by
 induction k with
 | zero => intro s; unfold patF; exact iteQ (fun _ => iteQ (fun _ => P0_o) (fun _ => P0_o)) (fun _ => P0_o)
 | succ k ih => exact fun s => patStep_o hT he ih s
omit hT he in
theorem layP_ok {p : PT} (h : AllT PIOk p) (hs : p.size <= 40000) : (layP p).ok /\ (layP p).sm := by
 have hl := AllT.lay PI.node p h 0
 refine ⟨fun y hy => ?_, ?_, fun y hy => ?_⟩
 ·obtain ⟨a, ks, rfl, ha, h1, h2⟩ := hl y hy
  exact ⟨ha.1, ha.2.1, by have := ha.2.2; show a.s.size <= maxLen; unfold maxLen; omega, fun k hk => ⟨by have := (h2 k hk).1; omega, by have := (h2 k hk).2; omega⟩⟩
 ·show (Arb.lay PI.node 0 p).length <= 1048576
  rw [Arb.lay_len]; omega
 ·obtain ⟨a, ks, rfl, ha, h1, h2⟩ := hl y hy
  exact ⟨by have := ha.2.2; show a.s.size <= 1048576; omega, by show ks.length <= 1048576; omega, fun _ _ => trivial⟩
omit hT he in
theorem iteR {c : Prop} [Decidable c] {a b : ET × PS} (h1 : c -> AllT EOk a.1) (h2 : ¬ c -> AllT EOk b.1) : AllT EOk (if c then a else b).1 := by
 by_cases h : c
 ·rw [if_pos h]; exact h1 h
 ·rw [if_neg h]; exact h2 h
omit hT he in
theorem Mo.wfO {s s' : PS} (h : Mo T s s') (w : s.i <= T.length) : s'.i <= T.length := h.2.1 w
section
variable {R : PS -> ET × PS} (hRb : ∀ s, EB T s (R s)) (hR : ∀ s, s.i <= T.length -> AllT EOk (R s).1)
include hRb hR
theorem atom_o (s : PS) (hs : s.i <= T.length) : AllT EOk (zg T e R s).1 := by
 have ht := za hT he s
 unfold zg
 refine iteR (fun hb => ?_) (fun _ => E0_o)
 have m1 : Mo T s (advS s) := Mo.adv (xK (Xa hb)).2
 have w1 := m1.wfO hs
 refine iteR (fun _ => .mk ⟨i64c (k := 1) (by omega) (by omega), ht.1, n_o hT he s, xP, Nat.zero_le _, xF⟩ xF) (fun _ => ?_)
 refine iteR (fun _ => e_mk (by omega) ht.1 ht.2.2 xF) (fun _ => ?_)
 refine iteR (fun _ => e_mk (by omega) ht.1 ht.2.2 xF) (fun _ => ?_)
 refine iteR (fun _ => e_mk (by omega) ht.1 ht.2.2 xF) (fun _ => ?_)
 refine iteR (fun _ => e_mk (by omega) ht.1 (by decide) xF) (fun _ => ?_)
 refine iteR (fun _ => ?_) (fun _ => e_mk (by omega) ht.1 ht.2.2 xF)
 refine iteR (fun _ => e_mk (by omega) ht.1 xP xF) (fun _ => ?_)
 have b := hR (advS s) w1
 have mb := (hRb (advS s)).1
 rcases h1 : R (advS s) with ⟨a, s1⟩
 rw [h1] at b mb
 refine iteR (fun h2 => ?_) (fun _ => b)
 have c := hR (advS s1) ((Mo.advS h2 (xa (l := [44]) (by simp))).wfO (mb.wfO w1))
 rcases h3 : R (advS s1) with ⟨b', s2⟩
 rw [h3] at c
 exact e_mk (by omega) ht.1 xP (mem2 b c)
omit hT he hRb hR in
theorem kidT_o {a b : ET} (ha : AllT EOk a) (hb : AllT EOk b) : AllT EOk (kidT a b) := .mk ha.lab (mem1 hb)
theorem appF_o (n : Nat) : ∀ (bare : Bool) (a : ET) (s : PS), s.i <= T.length -> AllT EOk a -> AllT EOk (appF T e R n bare a s).1 := by
 induction n with
 | zero => intro bare a s _ ha; exact ha
 | succ n ih =>
  intro bare a s hs ha
  unfold appF
  refine iteR (fun h => ?_) (fun _ => ha)
  have b := atom_o hT he hRb hR s hs
  have mb := (Xx hRb (e := e) s).1
  rcases h1 : zg T e R s with ⟨x, s1⟩
  rw [h1] at b mb
  refine ih false _ s1 (mb.wfO hs) ?_
  cases bare with
  | true => rw [if_pos rfl]; exact kidT_o ha b
  | false => rw [if_neg (by decide)]; exact e_mk (by omega) (za hT he s).1 xP (mem2 ha b)
theorem appS_o (s : PS) (hs : s.i <= T.length) : AllT EOk (appS T e R s).1 := by
 unfold appS
 have b := atom_o hT he hRb hR s hs
 have mb := (Xx hRb (e := e) s).1
 rcases h1 : zg T e R s with ⟨x, s1⟩
 rw [h1] at b mb
 exact appF_o hT he hRb hR _ _ _ s1 (mb.wfO hs) b
theorem unF_o (n : Nat) : ∀ s, s.i <= T.length -> AllT EOk (unF T e R n s).1 := by
 induction n with
 | zero => intro s _; exact E0_o
 | succ n ih =>
  intro s hs
  have ht := (za hT he s).1
  have key : ∀ x : ByteArray, x.toList ≠ [] -> isS T e s x = true -> AllT EOk (unF T e R n (advS s)).1 := fun x hx h => ih _ ((Mo.advS h hx).wfO hs)
  unfold unF
  refine iteR (fun h => ?_) (fun _ => ?_)
  ·have b := key _ (xa (l := [114, 97, 105, 115, 101]) (by simp)) h
   rcases h1 : unF T e R n (advS s) with ⟨a, s1⟩
   rw [h1] at b
   exact e_mk (by omega) ht xP (mem1 b)
  refine iteR (fun h => ?_) (fun _ => ?_)
  ·have b := key _ (xa (l := [114, 101, 102]) (by simp)) h
   rcases h1 : unF T e R n (advS s) with ⟨a, s1⟩
   rw [h1] at b
   exact e_mk (by omega) ht xP (mem1 b)
  refine iteR (fun h => ?_) (fun _ => ?_)
  ·have b := key _ (xa (l := [33]) (by simp)) h
   rcases h1 : unF T e R n (advS s) with ⟨a, s1⟩
   rw [h1] at b
   exact e_mk (by omega) ht xP (mem1 b)
  refine iteR (fun h => ?_) (fun _ => appS_o hT he hRb hR s hs)
  ·have b := key _ (xa (l := [45]) (by simp)) h
   rcases h1 : unF T e R n (advS s) with ⟨a, s1⟩
   rw [h1] at b
   exact e_mk (by omega) ht (by decide) (mem2 (e_mk (by omega) ht xP xF) b)
omit hRb hR in
theorem leftF_o {L : List ByteArray} (hL : ∀ x ∈ L, x.toList ≠ []) {Q : PS -> ET × PS} (hQb : ∀ s, EB T s (Q s)) (hQ : ∀ s, s.i <= T.length -> AllT EOk (Q s).1) (n : Nat) : ∀ (a : ET) (s : PS), s.i <= T.length -> AllT EOk a -> AllT EOk (zo T e L Q n a s).1 := by
 induction n with
 | zero => intro a s _ ha; exact ha
 | succ n ih =>
  intro a s hs ha
  unfold zo
  refine iteR (fun h => ?_) (fun _ => ha)
  have w1 : (advS s).i <= T.length := (Mo.adv (xK (uf hL h.2)).2).wfO hs
  have b := hQ (advS s) w1
  have mb := (hQb (advS s)).1
  rcases h1 : Q (advS s) with ⟨x, s1⟩
  rw [h1] at b mb
  exact ih _ s1 (mb.wfO w1) (e_mk (by omega) (za hT he s).1 (za hT he s).2.2 (mem2 ha b))
theorem left0_o (s : PS) (hs : s.i <= T.length) : AllT EOk (z7 T e R s).1 := by
 unfold z7
 have b := unF_o hT he hRb hR (T.length + 1) s hs
 have mb := (un_b hRb (e := e) (T.length + 1) s).1
 rcases h1 : unF T e R (T.length + 1) s with ⟨x, s1⟩
 rw [h1] at b mb
 exact leftF_o hT he (by simp only [List.mem_cons, List.not_mem_nil, or_false, forall_eq_or_imp, forall_eq]; exact ⟨xa (l := [42]) (by simp), xa (l := [47]) (by simp), xa (l := [37]) (by simp)⟩) (un_b hRb (e := e) (T.length + 1)) (unF_o hT he hRb hR (T.length + 1)) _ _ s1 (mb.wfO hs) b
theorem left1_o (s : PS) (hs : s.i <= T.length) : AllT EOk (uH T e R s).1 := by
 unfold uH
 have b := left0_o hT he hRb hR s hs
 have mb := (vJ hRb (e := e) s).1
 rcases h1 : z7 T e R s with ⟨x, s1⟩
 rw [h1] at b mb
 exact leftF_o hT he (by simp only [List.mem_cons, List.not_mem_nil, or_false, forall_eq_or_imp, forall_eq]; exact ⟨xa (l := [43]) (by simp), xa (l := [45]) (by simp), xa (l := [94]) (by simp)⟩) (vJ hRb (e := e)) (left0_o hT he hRb hR) _ _ s1 (mb.wfO hs) b
theorem consF_o (n : Nat) : ∀ s, s.i <= T.length -> AllT EOk (wl T e R n s).1 := by
 induction n with
 | zero => intro s _; exact E0_o
 | succ n ih =>
  intro s hs
  unfold wl
  have b := left1_o hT he hRb hR s hs
  have mb := (Ue hRb (e := e) s).1
  rcases h1 : uH T e R s with ⟨x, s1⟩
  rw [h1] at b mb
  refine iteR (fun h => ?_) (fun _ => b)
  have c := ih (advS s1) ((Mo.advS h (xa (l := [58, 58]) (by simp))).wfO (mb.wfO hs))
  rcases h2 : wl T e R n (advS s1) with ⟨y, s2⟩
  rw [h2] at c
  exact e_mk (by omega) (za hT he s1).1 (by decide) (mem1 (e_mk (by omega) (za hT he s1).1 xP (mem2 b c)))
theorem cmp_o (s : PS) (hs : s.i <= T.length) : AllT EOk (cmpS T e R s).1 := by
 unfold cmpS
 have b := consF_o hT he hRb hR (T.length + 1) s hs
 have mb := (YB hRb (e := e) (T.length + 1) s).1
 rcases h1 : wl T e R (T.length + 1) s with ⟨x, s1⟩
 rw [h1] at b mb
 refine iteR (fun h => ?_) (fun _ => b)
 have w1 : (advS s1).i <= T.length := (Mo.adv (xK (uf (by simp only [List.mem_cons, List.not_mem_nil, or_false, forall_eq_or_imp, forall_eq]; exact ⟨xa (l := [61]) (by simp), xa (l := [60, 62]) (by simp), xa (l := [60]) (by simp), xa (l := [60, 61]) (by simp)⟩) h)).2).wfO (mb.wfO hs)
 have c := consF_o hT he hRb hR (T.length + 1) (advS s1) w1
 rcases h2 : wl T e R (T.length + 1) (advS s1) with ⟨y, s2⟩
 rw [h2] at c
 exact e_mk (by omega) (za hT he s1).1 (za hT he s1).2.2 (mem2 b c)
theorem setF_o (n : Nat) : ∀ s, s.i <= T.length -> AllT EOk (setF T e R n s).1 := by
 induction n with
 | zero => intro s _; exact E0_o
 | succ n ih =>
  intro s hs
  unfold setF
  have b := cmp_o hT he hRb hR s hs
  have mb := (cmp_b hRb (e := e) s).1
  rcases h1 : cmpS T e R s with ⟨x, s1⟩
  rw [h1] at b mb
  refine iteR (fun h => ?_) (fun _ => b)
  have c := ih (advS s1) ((Mo.advS h (xa (l := [58, 61]) (by simp))).wfO (mb.wfO hs))
  rcases h2 : setF T e R n (advS s1) with ⟨y, s2⟩
  rw [h2] at c
  exact e_mk (by omega) (za hT he s1).1 xP (mem2 b c)
theorem arms_o (hTl : T.length <= 10000) (n : Nat) : ∀ (qs : List MPat) (l : List ET) (s : PS), s.i <= T.length -> qs.length <= s.i -> (∀ q ∈ qs, q.ok /\ q.sm) -> (∀ x ∈ l, AllT EOk x) -> (zl T e R n qs l s).1.length <= 20000 /\ (∀ q ∈ (zl T e R n qs l s).1, q.ok /\ q.sm) /\ ∀ x ∈ (zl T e R n qs l s).2.1, AllT EOk x := by
 induction n with
 | zero => intro qs l s hs hq h1 h2; exact ⟨by show qs.length <= 20000; omega, h1, h2⟩
 | succ n ih =>
  intro qs l s hs hq h1 h2
  unfold zl
  split
  ·have pb := pat_b (T := T) (e := e) 101 (zr s)
   have po := pat_o hT he 101 (zr s)
   rcases hp : patF T e 101 (zr s) with ⟨p, s1⟩
   rw [hp] at pb po
   obtain ⟨mp, zp⟩ := pb
   have w1 : s1.i <= T.length := mp.wfO hs
   have g0 : s.i <= s1.i := mp.1
   have g1 := (Mo.take (T := T) (e := e) s1 (xa (l := [45, 62]) (by simp)))
   have w2 := g1.wfO w1
   have b := hR _ w2
   have mb := (hRb (xf T e s1 (⟨#[45, 62]⟩ : ByteArray))).1
   rcases hr : R (xf T e s1 (⟨#[45, 62]⟩ : ByteArray)) with ⟨x, s2⟩
   rw [hr] at b mb
   have w3 : s2.i <= T.length := mb.wfO w2
   have g2 := g1.1
   have g3 : (xf T e s1 (⟨#[45, 62]⟩ : ByteArray)).i <= s2.i := mb.1
   have hp' := layP_ok po (by have : p.size + 3 * s.i <= 3 * s1.i + 1 := zp; show p.size <= 40000; omega)
   have k1 : ∀ q ∈ qs ++ [layP p], q.ok /\ q.sm := fun q hq => by
    rcases List.mem_append.1 hq with z | z
    ·exact h1 q z
    ·rw [List.mem_singleton.1 z]; exact hp'
   have k2 : ∀ y ∈ l ++ [x], AllT EOk y := fun y hy => by
    rcases List.mem_append.1 hy with z | z
    ·exact h2 y z
    ·rw [List.mem_singleton.1 z]; exact b
   simp only [hr]
   split
   ·rename_i h
    exact ih _ _ (advS s2) ((Mo.advS h (xa (l := [124]) (by simp))).wfO w3) (by rw [List.length_append]; show qs.length + 1 <= s2.i + 1; omega) k1 k2
   ·exact ⟨by show (qs ++ [layP p]).length <= 20000; rw [List.length_append]; show qs.length + 1 <= 20000; omega, k1, k2⟩
  ·exact ⟨by show qs.length <= 20000; omega, h1, h2⟩
theorem match_o (hTl : T.length <= 10000) {at_ : Int} (ha : I64 at_) (s : PS) (hs : s.i <= T.length) : AllT EOk (wI T e R at_ s).1 := by
 unfold wI
 have b := hR s hs
 have mb := (hRb s).1
 rcases h1 : R s with ⟨a, s1⟩
 rw [h1] at b mb
 have w1 := (Mo.take (T := T) (e := e) s1 (xa (l := [119, 105, 116, 104]) (by simp))).wfO (mb.wfO hs)
 have q := arms_o hT he hRb hR hTl (T.length + 1) [] [a] _ w1 (Nat.zero_le _) xF (mem1 b)
 rcases h2 : zl T e R (T.length + 1) [] [a] (xf T e s1 (⟨#[119, 105, 116, 104]⟩ : ByteArray)) with ⟨qs, l, s2⟩
 simp only
 rw [h2]
 rw [h2] at q
 exact .mk ⟨i64c (k := 13) (by omega) (by omega), ha, z64, xP, q.1, q.2.1⟩ q.2.2
theorem xaq (hTl : T.length <= 10000) (s : PS) (hs : s.i <= T.length) : AllT EOk (ue T e R s).1 := by
 have ht := (za hT he s).1
 have word : ∀ (s : PS) (k : Int), (xp T e s k).1.size <= 4000 := fun s k => by
  unfold xp; split
  ·exact (za hT he s).2.2
  ·exact xP
 have wr : ∀ {s' s1 : PS} {b : ET}, R s' = (b, s1) -> s'.i <= T.length -> AllT EOk b /\ s1.i <= T.length := fun {s' s1 b} h w => by
  have h1 := hR s' w
  have h2 := (hRb s').1.wfO w
  rw [h] at h1 h2; exact ⟨h1, h2⟩
 have wd : ∀ {s' s1 : PS} {k : Int} {x : ByteArray}, k ≠ 0 -> xp T e s' k = (x, s1) -> s'.i <= T.length -> x.size <= 4000 /\ s1.i <= T.length := fun {s' s1 k x} hk h w => by
  have h1 := word s' k
  have h2 := (Mo.word (T := T) (e := e) s' hk).wfO w
  rw [h] at h1 h2; exact ⟨h1, h2⟩
 unfold ue
 refine iteR (fun _ => ?_) (fun _ => E0_o)
 refine iteR (fun h => ?_) (fun _ => ?_)
 ·have w0 := (Mo.advS h (xa (l := [102, 117, 110]) (by simp))).wfO hs
  rcases h1 : xp T e (advS s) 3 with ⟨x, s1⟩
  obtain ⟨x1, w1⟩ := wd (by decide) h1 w0
  have w2 := (Mo.take (T := T) (e := e) s1 (xa (l := [45, 62]) (by simp))).wfO w1
  simp only
  rcases h2 : R (xf T e s1 (⟨#[45, 62]⟩ : ByteArray)) with ⟨b, s2⟩
  exact e_mk (by omega) ht x1 (mem1 (wr h2 w2).1)
 refine iteR (fun h => ?_) (fun _ => ?_)
 ·have w0 := (Mo.advS h (xa (l := [108, 101, 116]) (by simp))).wfO hs
  refine iteR (fun h' => ?_) (fun _ => ?_)
  ·have w00 := (Mo.advS h' (xa (l := [114, 101, 99]) (by simp))).wfO w0
   rcases h1 : xp T e (advS (advS s)) 3 with ⟨f, s1⟩
   obtain ⟨x1, w1⟩ := wd (by decide) h1 w00
   simp only
   rcases h2 : xp T e s1 3 with ⟨x, s2⟩
   obtain ⟨x2, w2⟩ := wd (by decide) h2 w1
   have w3 := (Mo.take (T := T) (e := e) s2 (xa (l := [61]) (by simp))).wfO w2
   simp only
   rcases h3 : R (xf T e s2 (⟨#[61]⟩ : ByteArray)) with ⟨a, s3⟩
   obtain ⟨x3, w4⟩ := wr h3 w3
   have w5 := (Mo.take (T := T) (e := e) s3 (xa (l := [105, 110]) (by simp))).wfO w4
   simp only
   rcases h4 : R (xf T e s3 (⟨#[105, 110]⟩ : ByteArray)) with ⟨b, s4⟩
   exact e_mk (by omega) ht x1 (mem2 (e_mk (by omega) (za hT he s1).1 x2 (mem1 x3)) (wr h4 w5).1)
  ·rcases h2 : xp T e (advS s) 3 with ⟨x, s2⟩
   obtain ⟨x2, w2⟩ := wd (by decide) h2 w0
   have w3 := (Mo.take (T := T) (e := e) s2 (xa (l := [61]) (by simp))).wfO w2
   simp only
   rcases h3 : R (xf T e s2 (⟨#[61]⟩ : ByteArray)) with ⟨a, s3⟩
   obtain ⟨x3, w4⟩ := wr h3 w3
   have w5 := (Mo.take (T := T) (e := e) s3 (xa (l := [105, 110]) (by simp))).wfO w4
   simp only
   rcases h4 : R (xf T e s3 (⟨#[105, 110]⟩ : ByteArray)) with ⟨b, s4⟩
   exact e_mk (by omega) ht x2 (mem2 x3 (wr h4 w5).1)
 refine iteR (fun h => ?_) (fun _ => ?_)
 ·have w0 := (Mo.advS h (xa (l := [105, 102]) (by simp))).wfO hs
  rcases h1 : R (advS s) with ⟨a, s1⟩
  obtain ⟨x1, w1⟩ := wr h1 w0
  have w2 := (Mo.take (T := T) (e := e) s1 (xa (l := [116, 104, 101, 110]) (by simp))).wfO w1
  simp only
  rcases h2 : R (xf T e s1 (⟨#[116, 104, 101, 110]⟩ : ByteArray)) with ⟨b, s2⟩
  obtain ⟨x2, w3⟩ := wr h2 w2
  have w4 := (Mo.take (T := T) (e := e) s2 (xa (l := [101, 108, 115, 101]) (by simp))).wfO w3
  simp only
  rcases h3 : R (xf T e s2 (⟨#[101, 108, 115, 101]⟩ : ByteArray)) with ⟨c, s3⟩
  exact e_mk (by omega) ht xP (mem3 x1 x2 (wr h3 w4).1)
 refine iteR (fun h => match_o hT he hRb hR hTl ht _ ((Mo.advS h (xa (l := [109, 97, 116, 99, 104]) (by simp))).wfO hs)) (fun _ => ?_)
 refine iteR (fun h => ?_) (fun _ => ?_)
 ·have w0 := (Mo.advS h (xa (l := [116, 114, 121]) (by simp))).wfO hs
  rcases h1 : R (advS s) with ⟨a, s1⟩
  obtain ⟨x1, w1⟩ := wr h1 w0
  have w2 := (Mo.take (T := T) (e := e) s1 (xa (l := [119, 105, 116, 104]) (by simp))).wfO w1
  simp only
  rcases h2 : xp T e (xf T e s1 (⟨#[119, 105, 116, 104]⟩ : ByteArray)) 3 with ⟨x, s2⟩
  obtain ⟨x2, w3⟩ := wd (by decide) h2 w2
  have w4 := (Mo.take (T := T) (e := e) s2 (xa (l := [45, 62]) (by simp))).wfO w3
  simp only
  rcases h3 : R (xf T e s2 (⟨#[45, 62]⟩ : ByteArray)) with ⟨b, s3⟩
  exact e_mk (by omega) ht x2 (mem2 x1 (wr h3 w4).1)
 have b := setF_o hT he hRb hR (T.length + 1) s hs
 have mb := (set_b hRb (e := e) (T.length + 1) s).1
 rcases h1 : setF T e R (T.length + 1) s with ⟨a, s1⟩
 rw [h1] at b mb
 refine iteR (fun h => ?_) (fun _ => b)
 have w1 := (Mo.advS h (xa (l := [59]) (by simp))).wfO (mb.wfO hs)
 rcases h2 : R (advS s1) with ⟨c, s2⟩
 exact e_mk (by omega) (za hT he s1).1 xP (mem2 b (wr h2 w1).1)
end
theorem expr_o (hTl : T.length <= 10000) (k : Nat) : ∀ s, s.i <= T.length -> AllT EOk (uC T e k s).1 := by
 induction k with
 | zero => intro s _; unfold uC; exact iteR (fun _ => E0_o) (fun _ => E0_o)
 | succ k ih => exact fun s hs => xaq hT he (WJ k) ih hTl s hs
omit hT he in
theorem lay_ok {t : ET} (h : AllT EOk t) (hs : t.size <= 600) : (∀ y ∈ Arb.lay EI.node 0 t, y.ok) /\ smS MNode.sm (Arb.lay EI.node 0 t) := by
 have hl := AllT.lay EI.node t h 0
 refine ⟨fun y hy => ?_, ?_, fun y hy => ?_⟩
 ·obtain ⟨a, ks, rfl, ⟨a1, a2, a3, a4, a5, a6⟩, h1, h2⟩ := hl y hy
  exact ⟨a1, a2, a3, by show a.s.size <= maxLen; unfold maxLen; omega, fun k hk => ⟨by have := (h2 k hk).1; omega, by have := (h2 k hk).2; omega⟩, fun q hq => (a6 q hq).1⟩
 ·rw [Arb.lay_len]; omega
 ·obtain ⟨a, ks, rfl, ⟨a1, a2, a3, a4, a5, a6⟩, h1, h2⟩ := hl y hy
  exact ⟨by show a.s.size <= 1048576; omega, ⟨by show ks.length <= 1048576; omega, fun _ _ => trivial⟩, by show a.pats.length <= 1048576; omega, fun q hq => (a6 q hq).2⟩
end
end Go.Proofs.YtgcdbmcoendcdaaGreat
namespace Go.Proofs.YtgcdbmcoendcdaaGreat
section
variable {T : List MTok} {e : Int}
theorem uD (s : PS) (c : Int) : (xx T e s c).seen = s.seen := by unfold xx; split <;> rfl
theorem wg (s : PS) (x : ByteArray) : (xf T e s x).seen = s.seen := by unfold xf; split; rfl; exact uD _ _
theorem wh (s : PS) (k : Int) : (xp T e s k).2.seen = s.seen := by unfold xp; split; rfl; exact uD _ _
theorem deep_seen (s : PS) (b : Bool) : (zm T e s b).seen = s.seen := by unfold zm; split <;> exact uD _ _
theorem adv_seen (s : PS) : (advS s).seen = s.seen := rfl
section
variable {R : PS -> List TyI × PS} (hR : ∀ s, (R s).2.seen = s.seen)
include hR
theorem Q5 (s : PS) : (x8 T e R s).2.seen = s.seen := by
 unfold x8
 split
 ·split
  ·rfl
  ·exact uD _ _
 ·split
  ·rfl
  ·split
   rename_i a s1 h1
   have b1 := hR (xf T e s (⟨#[40]⟩ : ByteArray))
   rw [h1, wg] at b1
   split
   ·split
    rename_i b s2 h2
    have b2 := hR (advS s1)
    rw [h2, adv_seen] at b2
    split
    rename_i nm s3 h3
    have b3 := wh (T := T) (e := e) (xf T e s2 (⟨#[41]⟩ : ByteArray)) 3
    rw [h3, wg] at b3
    exact b3.trans (b2.trans b1)
   ·exact (wg _ _).trans b1
omit hR in
theorem appl_seen (n : Nat) : ∀ (a : List TyI) (s : PS), (yu T e n a s).2.seen = s.seen := by
 induction n with
 | zero => intro a s; rfl
 | succ n ih =>
  intro a s
  unfold yu
  split
  ·exact ih _ _
  ·rfl
theorem prod_seen (n : Nat) : ∀ s, (yD T e R n s).2.seen = s.seen := by
 induction n with
 | zero => intro s; rfl
 | succ n ih =>
  intro s
  unfold yD
  split
  rename_i a0 s0 h0
  have b0 := Q5 hR (T := T) (e := e) s
  rw [h0] at b0
  split
  rename_i a s1 h1
  have b1 := appl_seen (T := T) (e := e) (T.length + 1) a0 s0
  rw [h1] at b1
  split
  ·split
   rename_i b s2 h2
   have b2 := ih (advS s1)
   rw [h2] at b2
   exact b2.trans (b1.trans b0)
  ·exact b1.trans b0
theorem QY (s : PS) : (zL T e R s).2.seen = s.seen := by
 unfold zL
 split
 ·split
  rename_i a s1 h1
  have b1 := prod_seen hR (T := T) (e := e) (T.length + 1) s
  rw [h1] at b1
  split
  ·split
   rename_i b s2 h2
   have b2 := hR (advS s1)
   rw [h2] at b2
   exact b2.trans b1
  ·exact b1
 ·rfl
end
theorem ty_seen (k : Nat) : ∀ s, (tyF T e k s).2.seen = s.seen := by
 induction k with
 | zero =>
  intro s
  unfold tyF
  split
  ·exact deep_seen s _
  ·rfl
 | succ k ih => intro s; exact QY ih s
theorem con_seen (s : PS) : (conS T e s).2.seen = s.seen := by
 unfold conS
 split
 rename_i nm s1 h1
 have b1 := wh (T := T) (e := e) s 4
 rw [h1] at b1
 split
 ·split
  rename_i a s2 h2
  have b2 := ty_seen (T := T) (e := e) 101 (advS s1)
  rw [h2] at b2
  exact b2.trans b1
 ·exact b1
theorem head_seen (s0 : PS) : (xW T e s0).2.seen = s0.seen := by
 unfold xW
 simp only
 split
 ·refine (wh _ _).trans ?_
  refine (wg _ _).trans ?_
  refine (wh _ _).trans ?_
  split
  ·refine (uD _ _).trans ?_
   refine (wg _ _).trans ?_
   exact (wh _ _).trans rfl
  ·refine (wg _ _).trans ?_
   exact (wh _ _).trans rfl
 ·split
  ·exact (wh _ _).trans rfl
  ·exact (wh _ _).trans rfl
theorem xaj (n : Nat) : ∀ (l : List MCon) (s : PS), (yd T e n l s).2.seen = s.seen := by
 induction n with
 | zero => intro l s; rfl
 | succ n ih =>
  intro l s
  unfold yd
  split
  ·split
   rename_i c s1 h1
   have b := con_seen (T := T) (e := e) s
   rw [h1] at b
   split
   ·exact (ih _ _).trans b
   ·exact b
  ·rfl
theorem type_seen (s : PS) : (zh T e s).2.seen = s.seen := by
 unfold zh
 split
 rename_i t s1 h1
 have b := head_seen (T := T) (e := e) s
 rw [h1] at b
 split
 rename_i l s2 h2
 have c := xaj (T := T) (e := e) (T.length + 1) [] (xf T e s1 (⟨#[61]⟩ : ByteArray))
 rw [h2] at c
 exact (wg _ _).trans (c.trans ((wg _ _).trans b))
end
def Cz (a b : PS) : Prop := a.code = 0 -> b.code = 0
theorem Cz.trans {a b c : PS} (h : Cz a b) (h' : Cz b c) : Cz a c := fun q => h' (h q)
section
variable {T : List MTok} {e : Int}
theorem vR (s : PS) (c : Int) : Cz (xx T e s c) s := fun h => by
 unfold xx at h
 split at h
 ·assumption
 ·exact h
theorem wO (s : PS) (x : ByteArray) : Cz (xf T e s x) s := by
 unfold xf; split
 ·exact fun h => h
 ·exact vR _ _
theorem uy (s : PS) (k : Int) : Cz (xp T e s k).2 s := by
 unfold xp; split
 ·exact fun h => h
 ·exact vR _ _
theorem ve (s : PS) : Cz (advS s) s := fun h => h
section
variable {R : PS -> List TyI × PS} (hR : ∀ s, Cz (R s).2 s)
include hR
theorem atom0_cz (s : PS) : Cz (x8 T e R s).2 s := by
 unfold x8
 split
 ·split
  ·exact ve s
  ·exact vR _ _
 ·split
  ·exact ve s
  ·have b1 := (hR (xf T e s (⟨#[40]⟩ : ByteArray))).trans (wO s _)
   rcases h1 : R (xf T e s (⟨#[40]⟩ : ByteArray)) with ⟨a, s1⟩
   rw [h1] at b1
   simp only
   split
   ·have b2 := (hR (advS s1)).trans (ve s1)
    rcases h2 : R (advS s1) with ⟨b, s2⟩
    rw [h2] at b2
    simp only
    have b3 := (uy (T := T) (e := e) (xf T e s2 (⟨#[41]⟩ : ByteArray)) 3).trans (wO s2 _)
    rcases h3 : xp T e (xf T e s2 (⟨#[41]⟩ : ByteArray)) 3 with ⟨nm, s3⟩
    rw [h3] at b3
    exact b3.trans (b2.trans b1)
   ·exact (wO _ _).trans b1
omit hR in
theorem appl_cz (n : Nat) : ∀ (a : List TyI) (s : PS), Cz (yu T e n a s).2 s := by
 induction n with
 | zero => intro a s; exact fun h => h
 | succ n ih =>
  intro a s
  unfold yu
  split
  ·exact (ih _ _).trans (ve s)
  ·exact fun h => h
theorem prod_cz (n : Nat) : ∀ s, Cz (yD T e R n s).2 s := by
 induction n with
 | zero => intro s; exact fun h => h
 | succ n ih =>
  intro s
  unfold yD
  have b0 := atom0_cz hR (T := T) (e := e) s
  rcases h0 : x8 T e R s with ⟨a0, s0⟩
  rw [h0] at b0
  have b1 := appl_cz (T := T) (e := e) (T.length + 1) a0 s0
  simp only
  rcases h1 : yu T e (T.length + 1) a0 s0 with ⟨a, s1⟩
  rw [h1] at b1
  simp only
  split
  ·have b2 := (ih (advS s1)).trans (ve s1)
   rcases h2 : yD T e R n (advS s1) with ⟨b, s2⟩
   rw [h2] at b2
   exact b2.trans (b1.trans b0)
  ·exact b1.trans b0
theorem tyStep_cz (s : PS) : Cz (zL T e R s).2 s := by
 unfold zL
 split
 ·have b1 := prod_cz hR (T := T) (e := e) (T.length + 1) s
  rcases h1 : yD T e R (T.length + 1) s with ⟨a, s1⟩
  rw [h1] at b1
  simp only
  split
  ·have b2 := (hR (advS s1)).trans (ve s1)
   rcases h2 : R (advS s1) with ⟨b, s2⟩
   rw [h2] at b2
   exact b2.trans b1
  ·exact b1
 ·exact fun h => h
end
theorem ty_cz (k : Nat) : ∀ s, Cz (tyF T e k s).2 s := by
 induction k with
 | zero =>
  intro s
  unfold tyF
  split
  ·unfold zm; split <;> exact vR _ _
  ·exact fun h => h
 | succ k ih => exact fun s => tyStep_cz ih s
theorem con_cz (s : PS) : Cz (conS T e s).2 s := by
 unfold conS
 have w := uy (T := T) (e := e) s 4
 rcases h1 : xp T e s 4 with ⟨nm, s1⟩
 rw [h1] at w
 simp only
 split
 ·have b := (ty_cz (T := T) (e := e) 101 (advS s1)).trans (ve s1)
  rcases h2 : tyF T e 101 (advS s1) with ⟨a, s2⟩
  rw [h2] at b
  exact b.trans w
 ·exact w
theorem ZK (n : Nat) : ∀ (l : List MCon) (s : PS), Cz (yd T e n l s).2 s /\ l.length <= (yd T e n l s).1.length := by
 induction n with
 | zero => intro l s; exact ⟨fun h => h, Nat.le_refl _⟩
 | succ n ih =>
  intro l s
  unfold yd
  split
  ·have b := con_cz (T := T) (e := e) s
   rcases h1 : conS T e s with ⟨c, s1⟩
   rw [h1] at b
   simp only
   split
   ·obtain ⟨q1, q2⟩ := ih (l ++ [c]) (advS s1)
    rw [List.length_append, List.length_singleton] at q2
    exact ⟨(q1.trans (ve s1)).trans b, by omega⟩
   ·exact ⟨b, by rw [List.length_append, List.length_singleton]; omega⟩
  ·exact ⟨fun h => h, Nat.le_refl _⟩
theorem cons1_pos (n : Nat) (l : List MCon) (s : PS) (h : (yd T e (n + 1) l s).2.code = 0) : 1 <= (yd T e (n + 1) l s).1.length := by
 have z := (ZK (T := T) (e := e) (n + 1) l s).1 h
 unfold yd
 rw [if_pos z]
 rcases h1 : conS T e s with ⟨c, s1⟩
 simp only
 split
 ·have := (ZK (T := T) (e := e) n (l ++ [c]) (advS s1)).2
  rw [List.length_append, List.length_singleton] at this
  omega
 ·rw [List.length_append, List.length_singleton]; omega
theorem head_cz (s0 : PS) : Cz (xW T e s0).2 s0 := by
 unfold xW
 simp only
 split
 ·refine (uy _ _).trans (fun h => ?_)
  have h := wO _ _ h
  have h := uy _ _ h
  split at h
  ·have h := vR _ _ h
   have h := wO _ _ h
   have h := uy _ _ h
   exact h
  ·have h := wO _ _ h
   have h := uy _ _ h
   exact h
 ·split
  ·exact (uy _ _).trans (fun h => h)
  ·exact (uy _ _).trans (fun h => h)
theorem type_cz (s : PS) : Cz (zh T e s).2 s /\ ((zh T e s).2.code = 0 -> 1 <= (zh T e s).1.cons.length) := by
 unfold zh
 have b := head_cz (T := T) (e := e) s
 rcases h1 : xW T e s with ⟨t, s1⟩
 rw [h1] at b
 have c := (ZK (T := T) (e := e) (T.length + 1) [] (xf T e s1 (⟨#[61]⟩ : ByteArray))).1
 have p := cons1_pos (T := T) (e := e) T.length [] (xf T e s1 (⟨#[61]⟩ : ByteArray))
 simp only
 rcases h2 : yd T e (T.length + 1) [] (xf T e s1 (⟨#[61]⟩ : ByteArray)) with ⟨l, s2⟩
 rw [h2] at c p
 exact ⟨(wO _ _).trans (c.trans ((wO _ _).trans b)), fun h => p (wO _ _ h)⟩
theorem types_pos (n : Nat) : ∀ (l : List MType) (s : PS), (∀ t ∈ l, 1 <= t.cons.length) -> (yI T e n l s).2.code = 0 -> (∀ t ∈ (yI T e n l s).1, 1 <= t.cons.length) /\ s.code = 0 := by
 induction n with
 | zero => intro l s h z; exact ⟨h, z⟩
 | succ n ih =>
  intro l s h z
  unfold yI at z ⊢
  split
  ·rename_i q
   rw [if_pos q] at z
   have b := type_cz (T := T) (e := e) (advS s)
   rcases h1 : zh T e (advS s) with ⟨t, s1⟩
   rw [h1] at b z
   have hh : ∀ y ∈ l ++ [t], s1.code = 0 -> 1 <= y.cons.length := fun y hy zz => by
    rcases List.mem_append.1 hy with w | w
    ·exact h y w
    ·rw [List.mem_singleton.1 w]; exact b.2 zz
   have key : (yI T e n (l ++ [t]) s1).2.code = 0 -> s1.code = 0 := by
    clear hh b h1 q h
    generalize l ++ [t] = l'
    clear z
    revert l' s1
    clear ih
    induction n with
    | zero => intro s1 l' z; exact z
    | succ n ih =>
     intro s1 l' z
     unfold yI at z
     split at z
     ·have b := type_cz (T := T) (e := e) (advS s1)
      rcases h2 : zh T e (advS s1) with ⟨t2, s2⟩
      rw [h2] at b z
      exact b.1 (ih s2 _ z)
     ·exact z
   have z1 := key z
   exact ⟨(ih (l ++ [t]) s1 (fun y hy => hh y hy z1) z).1, b.1 z1⟩
  ·rename_i q
   rw [if_neg q] at z
   exact ⟨h, z⟩
end
end Go.Proofs.YtgcdbmcoendcdaaGreat
namespace Go.Proofs.YtgcdbmcoendcdaaGreat
open Arb
def TI (x : TyI) : Prop := I64 x.v /\ x.name.size <= 4000 /\ I64 x.ar
theorem ty1_i {name : ByteArray} {l : List (List TyI)} (hn : name.size <= 4000) (hl : l.length <= 2) (h : ∀ a ∈ l, ∀ x ∈ a, TI x) : ∀ x ∈ ty1 name l, TI x := fun x hx => by
 unfold ty1 at hx
 rcases List.mem_cons.1 hx with q | q
 ·subst q; exact ⟨z64, hn, ⟨by show (-9223372036854775808 : Int) <= (l.length : Nat); omega, by show ((l.length : Nat) : Int) <= 9223372036854775807; omega⟩⟩
 ·obtain ⟨a, ha, hx⟩ := List.mem_flatten.1 q
  exact h a ha x hx
theorem ZS (v : Int) : ∀ (l : List Int) (k r : Nat), zy v l k r <= r \/ zy v l k r <= k + l.length
 | [], k, r => .inl (Nat.le_refl _)
 | x :: l, k, r => by
  show zy v l (k + 1) (if x = v then k else r) <= _ \/ zy v l (k + 1) (if x = v then k else r) <= _
  rw [List.length_cons]
  by_cases h : x = v
  ·rw [if_pos h]
   have := ZS v l (k + 1) k
   right; omega
  ·rw [if_neg h]
   have := ZS v l (k + 1) r
   omega
section
variable {T : List MTok} {e : Int} (hT : ∀ t ∈ T, TB t) (he : I64 e)
include hT he
theorem Y1 (s : PS) (k : Int) : (xp T e s k).1.size <= 4000 := by
 unfold xp; split
 ·exact (za hT he s).2.2
 ·exact xP
section
variable {R : PS -> List TyI × PS} (hR : ∀ s, s.vars.length <= 1000 -> ∀ x ∈ (R s).1, TI x) (hvv : ∀ s, (R s).2.vars = s.vars)
include hR hvv
theorem atom0_i (s : PS) (hv : s.vars.length <= 1000) : ∀ x ∈ (x8 T e R s).1, TI x := by
 unfold x8
 split
 ·split
  ·have := ZS (tokS T e s).n s.vars 0 0
   exact mem1 ⟨⟨by show (-9223372036854775808 : Int) <= (zy _ _ _ _ : Nat); omega, by show ((zy _ _ _ _ : Nat) : Int) <= 9223372036854775807; omega⟩, xP, z64⟩
  ·exact xF
 ·split
  ·exact ty1_i (za hT he s).2.2 (by simp) (fun a ha => by cases ha)
  ·have b1 := hR (xf T e s (⟨#[40]⟩ : ByteArray)) (by rw [y8]; exact hv)
   have v1 := hvv (xf T e s (⟨#[40]⟩ : ByteArray))
   rcases h1 : R (xf T e s (⟨#[40]⟩ : ByteArray)) with ⟨a, s1⟩
   rw [h1] at b1 v1
   rw [y8] at v1
   simp only
   split
   ·have b2 := hR (advS s1) (by show s1.vars.length <= 1000; have v1 : s1.vars = s.vars := v1; rw [v1]; exact hv)
    rcases h2 : R (advS s1) with ⟨b, s2⟩
    rw [h2] at b2
    simp only
    have w := Y1 hT he (xf T e s2 (⟨#[41]⟩ : ByteArray)) 3
    rcases h3 : xp T e (xf T e s2 (⟨#[41]⟩ : ByteArray)) 3 with ⟨nm, s3⟩
    rw [h3] at w
    exact ty1_i w (by simp) (fun c hc => by
     rcases List.mem_cons.1 hc with q | q
     ·rw [q]; exact b1
     ·rw [List.mem_singleton.1 q]; exact b2)
   ·exact b1
omit hR hvv in
theorem appl_i (n : Nat) : ∀ (a : List TyI) (s : PS), (∀ x ∈ a, TI x) -> ∀ x ∈ (yu T e n a s).1, TI x := by
 induction n with
 | zero => intro a s h; exact h
 | succ n ih =>
  intro a s h
  unfold yu
  split
  ·exact ih _ _ (ty1_i (za hT he s).2.2 (by simp) (mem1 h))
  ·exact h
theorem prod_i (n : Nat) : ∀ s, s.vars.length <= 1000 -> ∀ x ∈ (yD T e R n s).1, TI x := by
 induction n with
 | zero => intro s _; exact xF
 | succ n ih =>
  intro s hv
  unfold yD
  have b0 := atom0_i hT he hR hvv s hv
  have v0 := XT hvv (T := T) (e := e) s
  rcases h0 : x8 T e R s with ⟨a0, s0⟩
  rw [h0] at b0 v0
  have b1 := appl_i hT he (T.length + 1) a0 s0 b0
  have v1 := Yv (T := T) (e := e) (T.length + 1) a0 s0
  simp only
  rcases h1 : yu T e (T.length + 1) a0 s0 with ⟨a, s1⟩
  rw [h1] at b1 v1
  simp only
  split
  ·have b2 := ih (advS s1) (by show s1.vars.length <= 1000; have v1 : s1.vars = s0.vars := v1; have v0 : s0.vars = s.vars := v0; rw [v1, v0]; exact hv)
   rcases h2 : yD T e R n (advS s1) with ⟨b, s2⟩
   rw [h2] at b2
   exact ty1_i (by decide) (by simp) (fun c hc => by
    rcases List.mem_cons.1 hc with q | q
    ·rw [q]; exact b1
    ·rw [List.mem_singleton.1 q]; exact b2)
  ·exact b1
theorem tyStep_i (s : PS) (hv : s.vars.length <= 1000) : ∀ x ∈ (zL T e R s).1, TI x := by
 unfold zL
 split
 ·have b1 := prod_i hT he hR hvv (T.length + 1) s hv
  have v1 := YV hvv (T := T) (e := e) (T.length + 1) s
  rcases h1 : yD T e R (T.length + 1) s with ⟨a, s1⟩
  rw [h1] at b1 v1
  simp only
  split
  ·have b2 := hR (advS s1) (by show s1.vars.length <= 1000; have v1 : s1.vars = s.vars := v1; rw [v1]; exact hv)
   rcases h2 : R (advS s1) with ⟨b, s2⟩
   rw [h2] at b2
   exact ty1_i (by decide) (by simp) (fun c hc => by
    rcases List.mem_cons.1 hc with q | q
    ·rw [q]; exact b1
    ·rw [List.mem_singleton.1 q]; exact b2)
  ·exact b1
 ·exact xF
end
theorem ty_i (k : Nat) : ∀ s, s.vars.length <= 1000 -> ∀ x ∈ (tyF T e k s).1, TI x := by
 induction k with
 | zero => intro s _; unfold tyF; split <;> exact xF
 | succ k ih => exact fun s hv => tyStep_i hT he ih (Up k) s hv
def CI (c : MCon) : Prop := c.name.size <= 4000 /\ (∀ x ∈ c.arg, TI x) /\ c.arg.length <= 20000
theorem con_i (hTl : T.length <= 10000) (s : PS) (hs : s.i <= T.length) (hv : s.vars.length <= 1000) : CI (conS T e s).1 := by
 have hl := (con_arg (T := T) (e := e) s).1
 have hb := (WG (T := T) (e := e) s).2 hs
 have key : (conS T e s).1.name.size <= 4000 /\ ∀ x ∈ (conS T e s).1.arg, TI x := by
  unfold conS
  have w := Y1 hT he s 4
  have v := yK (T := T) (e := e) s 4
  rcases h1 : xp T e s 4 with ⟨nm, s1⟩
  rw [h1] at w v
  simp only
  split
  ·have b := ty_i hT he 101 (advS s1) (by show s1.vars.length <= 1000; have v : s1.vars = s.vars := v; rw [v]; exact hv)
   rcases h2 : tyF T e 101 (advS s1) with ⟨a, s2⟩
   rw [h2] at b
   exact ⟨w, b⟩
  ·exact ⟨w, xF⟩
 exact ⟨key.1, key.2, by omega⟩
theorem cons1_i (hTl : T.length <= 10000) (n : Nat) : ∀ (l : List MCon) (s : PS), s.i <= T.length -> s.vars.length <= 1000 -> (∀ c ∈ l, CI c) -> ∀ c ∈ (yd T e n l s).1, CI c := by
 induction n with
 | zero => intro l s _ _ h; exact h
 | succ n ih =>
  intro l s hs hv h
  unfold yd
  split
  ·have b := con_i hT he hTl s hs hv
   have v := VI (T := T) (e := e) s
   have m := (WG (T := T) (e := e) s).2 hs
   rcases h1 : conS T e s with ⟨c, s1⟩
   rw [h1] at b v m
   have k1 : ∀ y ∈ l ++ [c], CI y := fun y hy => by
    rcases List.mem_append.1 hy with z | z
    ·exact h y z
    ·rw [List.mem_singleton.1 z]; exact b
   simp only
   split
   ·rename_i q
    exact ih _ (advS s1) (xt q (xa (l := [124]) (by simp))).2 (by show s1.vars.length <= 1000; have v : s1.vars = s.vars := v; rw [v]; exact hv) k1
   ·exact k1
  ·exact h
def TyO (t : MType) : Prop := t.name.size <= 4000 /\ I64 t.params /\ ∀ c ∈ t.cons, CI c
theorem head_i (s0 : PS) : (xW T e s0).1.name.size <= 4000 /\ I64 (xW T e s0).1.params := by
 unfold xW
 simp only
 split
 ·exact ⟨Y1 hT he _ 3, i64c (k := 2) (by omega) (by omega)⟩
 ·split
  ·exact ⟨Y1 hT he _ 3, i64c (k := 1) (by omega) (by omega)⟩
  ·exact ⟨Y1 hT he _ 3, z64⟩
theorem type_i (hTl : T.length <= 10000) (s : PS) (hs : s.i <= T.length) : TyO (zh T e s).1 := by
 unfold zh
 have b := head_i hT he s
 have m := Ua (T := T) (e := e) s
 rcases h1 : xW T e s with ⟨t, s1⟩
 rw [h1] at b m
 have w1 : s1.i <= T.length := m.1.2 hs
 have w2 : (xf T e s1 (⟨#[61]⟩ : ByteArray)).i <= T.length := (Mo.take (T := T) (e := e) s1 (xa (l := [61]) (by simp))).wfO w1
 have c := cons1_i hT he hTl (T.length + 1) [] (xf T e s1 (⟨#[61]⟩ : ByteArray)) w2 (by rw [y8]; have : s1.vars.length <= 2 := m.2; omega) xF
 simp only
 rcases h2 : yd T e (T.length + 1) [] (xf T e s1 (⟨#[61]⟩ : ByteArray)) with ⟨l, s2⟩
 rw [h2] at c
 exact ⟨b.1, b.2, c⟩
theorem types_i (hTl : T.length <= 10000) (n : Nat) : ∀ (l : List MType) (s : PS), s.i <= T.length -> (∀ t ∈ l, TyO t) -> (∀ t ∈ (yI T e n l s).1, TyO t) /\ (yI T e n l s).2.i <= T.length := by
 induction n with
 | zero => intro l s hs h; exact ⟨h, hs⟩
 | succ n ih =>
  intro l s hs h
  unfold yI
  split
  ·rename_i q
   have w := (xt q (xa (l := [116, 121, 112, 101]) (by simp))).2
   have b := type_i hT he hTl (advS s) w
   have m := (type_bd (T := T) (e := e) (advS s)).2 w
   rcases h1 : zh T e (advS s) with ⟨t, s1⟩
   rw [h1] at b m
   exact ih _ s1 m (fun y hy => by
    rcases List.mem_append.1 hy with z | z
    ·exact h y z
    ·rw [List.mem_singleton.1 z]; exact b)
  ·exact ⟨h, hs⟩
omit hT he in
theorem tyO_ok {t : MType} (h : TyO t) (hc : t.cons.length <= 8) : t.ok /\ t.sm := by
 refine ⟨⟨by have := h.1; unfold maxLen; omega, h.2.1, fun c hc => ?_⟩, by have := h.1; show t.name.size <= 1048576; omega, by omega, fun c hc => ?_⟩
 ·obtain ⟨h1, h2, h3⟩ := h.2.2 c hc
  exact ⟨by unfold maxLen; omega, trivial, fun x hx => ⟨(h2 x hx).1, by have := (h2 x hx).2.1; unfold maxLen; omega, (h2 x hx).2.2⟩⟩
 ·obtain ⟨h1, h2, h3⟩ := h.2.2 c hc
  exact ⟨by omega, by omega, fun x hx => by have := (h2 x hx).2.1; show x.name.size <= 1048576; omega⟩
end
structure Good (p : MProgram) : Prop where
 ok : p.ok
 sm : p.sm
 few : p.nodes.length <= 600
 tys : p.types.length <= 8
 con : ∀ t ∈ p.types, 1 <= t.cons.length
theorem ZP : Good ⟨[], []⟩ := ⟨⟨xF, xF⟩, ⟨⟨by decide, xF⟩, ⟨by decide, xF⟩⟩, by decide, by decide, xF⟩
theorem parT_good {T : List MTok} {e : Int} (hT : ∀ t ∈ T, TB t) (he : I64 e) (hTl : T.length <= 10000) : Good (parT T e).1 := by
 unfold parT WR
 have a := types_i hT he hTl (T.length + 1) [] ⟨0, 0, 0, [], []⟩ (Nat.zero_le _) xF
 have pz := types_pos (T := T) (e := e) (T.length + 1) [] ⟨0, 0, 0, [], []⟩ xF
 rcases h1 : yI T e (T.length + 1) [] ⟨0, 0, 0, [], []⟩ with ⟨ts, s1⟩
 rw [h1] at a pz
 have ez := (WJ (T := T) (e := e) 101 s1).1.2.2.2
 have b := expr_o hT he hTl 101 s1 a.2
 simp only
 rcases h2 : uC T e 101 s1 with ⟨t, s2⟩
 rw [h2] at b ez
 simp only
 have hz : (if s2.code = 0 /\ s2.i < T.length then xx T e s2 7 else s2).code = 0 -> s2.code = 0 := by
  split
  ·rename_i q; exact fun _ => q.1
  ·exact fun h => h
 generalize (if s2.code = 0 /\ s2.i < T.length then xx T e s2 7 else s2) = s3 at hz ⊢
 split
 ·exact ZP
 ·rename_i hc3
  have hc3 : s3.code = 0 := by simpa using hc3
  split
  ·exact ZP
  ·rename_i h
   simp only [not_or] at h
   obtain ⟨q1, q2, q3⟩ := h
   have hl := lay_ok b (by show t.size <= 600; omega)
   have hc : ∀ y ∈ ts, y.cons.length <= 8 := fun y hy => by
    rcases Nat.lt_or_ge 8 y.cons.length with z | z
    ·exact absurd (List.any_eq_true.2 ⟨y, hy, by simpa using z⟩) q3
    ·exact z
   refine ⟨⟨fun y hy => (tyO_ok (a.1 y hy) (hc y hy)).1, hl.1⟩, ⟨⟨by show ts.length <= 1048576; omega, fun y hy => (tyO_ok (a.1 y hy) (hc y hy)).2⟩, hl.2⟩, ?_, by show ts.length <= 8; omega, (pz (ez (hz hc3))).1⟩
   show (Arb.lay EI.node 0 t).length <= 600
   rw [Arb.lay_len]; omega
end Go.Proofs.YtgcdbmcoendcdaaGreat
namespace Go.Proofs.YtgcdbmcoendcdaaGreat
open Go.RowKit Arb
theorem FCon.argNil {P : Program} {f : FuncId} {e k : Nat} {args : List D} {Rs : D -> List D -> Prop} (h : FCon P f (.osl e k [] :: args) Rs) : FCon P f (.nil :: args) Rs :=
 ⟨h.ent, fun w g vs h1 h2 h3 h4 => h.run w g vs h1 h2 (by simpa using h3) (fun j d u hd hu => by
  cases j with
  | zero =>
   simp at hd; subst hd
   exact Rep.nil_osl e k (show Rep g.S g.up w (some (.par 0 0)) .nil u from h4 0 _ u rfl hu)
  | succ j => exact h4 (j + 1) d u (by simpa using hd) hu)⟩
theorem exS_mk2 (b : EI) (r : List ET) : exS (.mk b r) = [.pt [.s (.int .i64 b.kind), .s (.int .i64 b.at_), .s (.int .i64 b.n), .s (.string b.s), .sl 1 (r.map exS), .sl 1 (b.pats.map MPat.enc)]] := by show [exE _] = _; rw [xM]
def layC (rows : List (List D)) (a : EI) (l : List ET) : List (List D) := rows ++ [.s (.int .i64 a.kind), .s (.int .i64 a.at_), .s (.int .i64 a.n), .s (.string a.s), .nil, .osl 89 1 (a.pats.map MPat.own)] :: (layL EI.node (rows.length + 1) l).map MNode.own
theorem ZT (rows : List (List D)) (a : EI) (l : List ET) : (layC rows a l).length = rows.length + 1 + sizeL l := by
 unfold layC; rw [List.length_append, List.length_cons, List.length_map, layL_len]; omega
theorem layC_nil (rows : List (List D)) (a : EI) : layC rows a [] = rows ++ [[.s (.int .i64 a.kind), .s (.int .i64 a.at_), .s (.int .i64 a.n), .s (.string a.s), .nil, .osl 89 1 (a.pats.map MPat.own)]] := rfl
theorem layC_succ (rows : List (List D)) (a : EI) (l : List ET) (k : Nat) (h : k < l.length) : layC rows a (l.take (k + 1)) = layC rows a (l.take k) ++ (Arb.lay EI.node (layC rows a (l.take k)).length l[k]).map MNode.own := by
 rw [ZT]
 unfold layC
 rw [List.take_succ_eq_append_getElem h, layL_app, layL_cons, layL_nil, List.append_nil, List.map_append, List.append_assoc, List.cons_append]
theorem layC_get (rows : List (List D)) (a : EI) (l : List ET) : (layC rows a l).getD rows.length [] = [.s (.int .i64 a.kind), .s (.int .i64 a.at_), .s (.int .i64 a.n), .s (.string a.s), .nil, .osl 89 1 (a.pats.map MPat.own)] := by
 unfold layC
 rw [List.getD_eq_getElem?_getD, List.getElem?_append_right (Nat.le_refl _), Nat.sub_self]; rfl
theorem layC_set (rows : List (List D)) (a : EI) (l : List ET) : (layC rows a l).set rows.length [.s (.int .i64 a.kind), .s (.int .i64 a.at_), .s (.int .i64 a.n), .s (.string a.s), .osl 3 1 ((idxs (rows.length + 1) l).map iE), .osl 89 1 (a.pats.map MPat.own)] = rows ++ (Arb.lay EI.node rows.length (.mk a l)).map MNode.own := by
 unfold layC
 rw [List.set_append_right _ _ (Nat.le_refl _), Nat.sub_self, List.set_cons_zero, lay_mk, List.map_cons]; rfl
theorem xaW (l : List ET) (k : Nat) : sizeL (l.take k) <= sizeL l := by
 have e := congrArg sizeL (List.take_append_drop k l)
 rw [sizeL_app] at e
 omega
theorem V8 {l : List ET} {k : Nat} (h : k < l.length) : sizeL (l.take k) + l[k].size <= sizeL l := by
 have e := congrArg sizeL (List.take_append_drop k l)
 rw [sizeL_app, List.drop_eq_getElem_cons h, sizeL_cons] at e
 omega
theorem idxs_succ (b : Nat) (l : List ET) (k : Nat) (h : k < l.length) : idxs b (l.take (k + 1)) = idxs b (l.take k) ++ [((b + sizeL (l.take k) : Nat) : Int)] := by
 rw [List.take_succ_eq_append_getElem h, idxs_app]; rfl
theorem c_flat : ∀ t : ET, All (fun a _ => Xg a.pats) t -> ∀ rows : List (List D), rows.length + t.size <= 1000000 -> FCon Tryz.prog 77 [.osl 55 6 rows, exE t] (fun r o => r = .tup [.osl 55 6 (rows ++ (Arb.lay EI.node rows.length t).map MNode.own), .s (.int .i64 rows.length)] /\ o = [.un, .un]) := fun t => by
 induction t using Arb.ind with
 | h a l ih =>
  intro hA rows hs
  rw [size_mk] at hs
  have hll := sizeL_len l
  have hp := hA.root
  have hcp := XV a.pats hp.1 hp.2
  rw [xM]
  refine FI PM Tryz.func77 Tryz.ntmps77 [(2, 24, [21, 22, 23], [(21, 0), (21, 1), (21, 2), (21, 3), (21, 4), (21, 5), (21, 6), (21, 7), (21, 8), (21, 9), (21, 10), (21, 11), (21, 12), (21, 13), (21, 14), (21, 15), (21, 16), (22, 0), (23, 0)], (lin [21, 22, 23] [0, 1, 2, 3, 4, 5, 6, 7, 8, 9, 10, 11, 12, 13, 14, 15, 16, 17, 18, 19, 20, 21, 22, 23]))] rfl rfl ?_
  (have hWf := f0; repeat' (first | refine zS ?_ | refine zI ?_ ?_ | refine zX (FCon.noout hcp) ?_ | ((with_reducible apply xc); refine zG (hcp) ?_) | exact zF0 | refine zD fun hb => ?_ | exact zC | refine zT ?_ | fail))
  refine xk (fun n σ => ∃ (k nm : Nat), (nm = 38 \/ nm = 1052) /\ k <= l.length /\ n = l.length - k /\ σ.t 0 = .bs nm 6 (layC rows a (l.take k)).length /\ σ.t 6 = .s (.int .i64 rows.length) /\ σ.t 7 = .bs 39 1 (idxs (rows.length + 1) (l.take k)).length /\ σ.t 43 = .sl 1 (l.map exS) /\ σ.t 44 = .s (.int .i64 l.length) /\ σ.t 45 = .s (.int .i64 k) /\
   σ.b nm = some (.arr 55 6 (layC rows a (l.take k))) /\ σ.b 39 = some (.arr 3 1 ((idxs (rows.length + 1) (l.take k)).map iE)) /\ σ.b 900000 = none) l.length ⟨0, 38, .inl rfl, by omega, by omega, ?_⟩ ?_
  ·simp only [go_sem, simprocAttr, Int.natCast_zero, List.take_zero, layC_nil, List.length_append, idxs]
  ·rintro n σ ⟨k, nm, hnm, hk, rfl, h0, h6, h7, h43, h44, h45, b0, b7, b9⟩ K' hK
   have hcl := ZT rows a (l.take k)
   have hil := idxs_len (rows.length + 1) (l.take k)
   have hts := xaW l k
   by_cases hlt : k < l.length
   ·have hx := xh exS l k hlt
    obtain ⟨b, q, hbr⟩ : ∃ b q, l[k] = .mk b q := ⟨_, _, Arb.eta _⟩
    have he : exS l[k] = [.pt [.s (.int .i64 b.kind), .s (.int .i64 b.at_), .s (.int .i64 b.n), .s (.string b.s), .sl 1 (q.map exS), .sl 1 (b.pats.map MPat.enc)]] := by rw [hbr, exS_mk2]
    have hz := V8 hlt
    have hi := ih l[k] (List.getElem_mem hlt) (hA.kid _ (List.getElem_mem hlt)) (layC rows a (l.take k)) (by omega)
    have hcs := layC_succ rows a l k hlt
    have his := idxs_succ (rows.length + 1) l k hlt
    rw [<- hcs, show exE l[k] = .pt [.s (.int .i64 b.kind), .s (.int .i64 b.at_), .s (.int .i64 b.n), .s (.string b.s), .sl 1 (q.map exS), .sl 1 (b.pats.map MPat.enc)] by rw [hbr, xM]] at hi
    have hle : (l.take k).length = k := by rw [List.length_take]; omega
    rcases hnm with rfl | rfl
    ·(have hWf := w11 @h0 @h6 @h7 @h43 @h44 @h45 @b0 @b7 @b9 @hx @he; repeat' (first | refine zS ?_ | refine zI ?_ ?_ | refine zH hi ?_ | exact zF0 | refine zD fun hb => ?_ | exact zC | refine zT ?_ | fail))
     refine hK (l.length - (k + 1)) _ (by omega) ⟨k + 1, 1052, .inr rfl, by omega, rfl, ?_⟩
     simp only [go_sem, simprocAttr, h0, h6, h7, h43, h44, h45, b0, b7, b9, Int.natCast_succ, his, List.map_append, List.length_append, hcl]
     all_goals rfl
    ·(have hWf := w11 @h0 @h6 @h7 @h43 @h44 @h45 @b0 @b7 @b9 @hx @he; repeat' (first | refine zS ?_ | refine zI ?_ ?_ | refine zH hi ?_ | exact zF0 | refine zD fun hb => ?_ | exact zC | refine zT ?_ | fail))
     refine hK (l.length - (k + 1)) _ (by omega) ⟨k + 1, 1052, .inr rfl, by omega, rfl, ?_⟩
     simp only [go_sem, simprocAttr, h0, h6, h7, h43, h44, h45, b0, b7, b9, Int.natCast_succ, his, List.map_append, List.length_append, hcl]
     all_goals rfl
   ·obtain rfl : k = l.length := by omega
    rw [List.take_length] at h0 h7 b0 b7 hcl hil
    have hg := layC_get rows a l
    have hst := layC_set rows a l
    have hln : (layC rows a l).length = rows.length + (Arb.lay EI.node rows.length (.mk a l)).length := by rw [ZT, Arb.lay_len, size_mk]; omega
    have htk : List.take (layC rows a l).length (rows ++ (Arb.lay EI.node rows.length (.mk a l)).map MNode.own) = rows ++ (Arb.lay EI.node rows.length (.mk a l)).map MNode.own := List.take_of_length_le (by rw [hln, List.length_append, List.length_map]; exact Nat.le_refl _)
    rcases hnm with rfl | rfl
    ·(have hWf := w12 @h0 @h6 @h7 @h43 @h44 @h45 @b0 @b7 @b9 @hg @hst @htk; repeat' (first | refine zS ?_ | refine zI ?_ ?_ | exact zF0 | refine zD fun hb => ?_ | exact zC | refine zT ?_ | fail))
     all_goals exact Nat.le_of_eq hln
    ·(have hWf := w12 @h0 @h6 @h7 @h43 @h44 @h45 @b0 @b7 @b9 @hg @hst @htk; repeat' (first | refine zS ?_ | refine zI ?_ ?_ | exact zF0 | refine zD fun hb => ?_ | exact zC | refine zT ?_ | fail))
     all_goals exact Nat.le_of_eq hln
def typesB (ts : List MType) : Prop := ts.length <= 1048576 /\ ∀ t ∈ ts, t.cons.length <= 1048576 /\ ∀ c ∈ t.cons, c.arg.length <= 1048576
theorem Qt (ts : List MType) (hb : typesB ts) : FCon Tryz.prog 78 [.sl 3 (ts.map MType.enc)] (fun r _ => r = .osl 63 3 (ts.map MType.own)) := by
 have hl := hb.1
 refine FI PM Tryz.func78 Tryz.ntmps78 [(9, 7, [6], [(6, 0), (6, 1), (6, 2)], (lin [6] [0, 1, 2, 3, 4, 5, 6]))] rfl rfl ?_
 (have hWf := f0; repeat' (first | refine zS ?_ | refine zI ?_ ?_ | exact zF0 | refine zD fun hb => ?_ | exact zC | refine zT ?_ | fail))
 refine xk (fun n σ => ∃ k : Nat, k <= ts.length /\ n = ts.length - k /\ σ.t 3 = .bs 8 3 k /\ σ.b 8 = some (.arr 63 3 ((ts.take k).map MType.own)) /\ σ.t 9 = .sl 3 (ts.map MType.enc) /\ σ.t 10 = .s (.int .i64 ts.length) /\ σ.t 11 = .s (.int .i64 k)) ts.length ⟨0, by omega, by omega, ?_⟩ ?_
 ·simp only [go_sem, simprocAttr, Int.natCast_zero, List.take_zero]
 ·rintro n σ ⟨k, hk, rfl, h3, b8, h9, h10, h11⟩ K' hK
  by_cases hlt : k < ts.length
  ·have hx := xh MType.enc ts k hlt
   have he := MType.enc_eq ts[k]
   have hbb := hb.2 _ (List.getElem_mem hlt)
   generalize hn : ts[k].name = nm at he
   generalize hpa : ts[k].params = pa at he
   generalize hcs : ts[k].cons = cs at he hbb
   have hcl := Qp cs (by omega)
   have htl : (ts.take k).length = k := by rw [List.length_take]; omega
   have hts := List.take_succ_eq_append_getElem hlt
   (have hWf := w7 @h3 @b8 @h9 @h10 @h11 @hx @he; repeat' (first | refine zS ?_ | refine zI ?_ ?_ | refine zK (hcl) ?_ | exact zF0 | refine zD fun hb => ?_ | exact zC | refine zT ?_ | fail))
   refine xk (fun n σ => ∃ j : Nat, j <= cs.length /\ n = cs.length - j /\ σ.t 3 = .bs 8 3 k /\ σ.b 8 = some (.arr 63 3 ((ts.take k).map MType.own)) /\ σ.t 9 = .sl 3 (ts.map MType.enc) /\ σ.t 10 = .s (.int .i64 ts.length) /\ σ.t 11 = .s (.int .i64 k) /\
    σ.t 5 = .bx 5 0 /\ σ.b 5 = some (.box [.s (.string nm), .s (.int .i64 pa), .bs 1017 3 cs.length]) /\ σ.t 20 = .bs 1017 3 cs.length /\ σ.b 1017 = some (.arr 68 3 (mixR MCon.own MCon.enc cs j)) /\ σ.t 21 = .s (.int .i64 cs.length) /\ σ.t 22 = .s (.int .i64 j)) cs.length ⟨0, by omega, by omega, ?_⟩ ?_
   ·simp only [go_sem, simprocAttr, h3, b8, h9, h10, h11, Int.natCast_zero, YP]
   ·rintro n σ ⟨j, hj, rfl, h3, b8, h9, h10, h11, h5, b5, h20, b1, h21, h22⟩ K' hK'
    have hml := Yc (f := MCon.own) (g := MCon.enc) (l := cs) (k := j)
    by_cases hlj : j < cs.length
    ·have hx := Yb (f := MCon.own) (g := MCon.enc) hlj
     have he := MCon.enc_eq cs[j]
     have hst := Z0 (f := MCon.own) (g := MCon.enc) hlj
     rw [MCon.own_eq] at hst
     have hci := W5 cs[j].arg (by have := hbb.2 _ (List.getElem_mem hlj); omega)
     (have hWf := w15 @h3 @b8 @h9 @h10 @h11 @h5 @b5 @h20 @b1 @h21 @h22 @hx @he @hml @hst; repeat' (first | refine zS ?_ | refine zI ?_ ?_ | refine zX (FCon.noout hci) ?_ | ((with_reducible apply xc); refine zG (hci) ?_) | exact zF0 | refine zD fun hb => ?_ | exact zC | refine zT ?_ | fail))
     refine hK' (cs.length - (j + 1)) _ (by omega) ⟨j + 1, by omega, rfl, ?_⟩
     simp only [go_sem, simprocAttr, h3, b8, h9, h10, h11, h5, b5, h20, b1, h21, h22, Int.natCast_succ, hst]
    ·obtain rfl : j = cs.length := by omega
     rw [ZZ] at b1
     have ho := MType.own_eq ts[k]
     rw [hn, hpa, hcs] at ho
     (have hWf := w12 @h3 @b8 @h9 @h10 @h11 @h5 @b5 @h20 @b1 @h21 @h22 @htl; repeat' (first | refine zS ?_ | refine zI ?_ ?_ | exact zF0 | refine zD fun hb => ?_ | exact zC | refine zT ?_ | fail))
     refine hK (ts.length - (k + 1)) _ (by omega) ⟨k + 1, by omega, rfl, ?_⟩
     simp only [go_sem, simprocAttr, h3, b8, h9, h10, h11, h5, b5, h20, b1, h21, h22, Int.natCast_succ, hts, List.map_append, ho]
  ·obtain rfl : k = ts.length := by omega
   rw [List.take_length] at b8
   (have hWf := w5 @h3 @b8 @h9 @h10 @h11; repeat' (first | refine zS ?_ | refine zI ?_ ?_ | exact zF0 | refine zD fun hb => ?_ | exact zC | refine zT ?_ | fail))
theorem QC (ts : List MType) (hb : typesB ts) (t : ET) (hA : All (fun a _ => Xg a.pats) t) (hs : t.size <= 1000000) : FCon Tryz.prog 29 [.sl 3 (ts.map MType.enc), exE t] (fun r _ => r = .ag [.osl 63 3 (ts.map MType.own), .osl 55 6 ((Arb.lay EI.node 0 t).map MNode.own)]) := by
 have hf := (c_flat t hA [] (by simpa using hs)).argNil
 have hc := Qt ts hb
 obtain ⟨a, l⟩ := t
 rw [xM] at hf ⊢
 simp only [List.length_nil, List.nil_append, Int.natCast_zero] at hf
 refine FI PM Tryz.func29 Tryz.ntmps29 [] rfl rfl ?_
 (have hWf := f0; repeat' (first | refine zS ?_ | refine zI ?_ ?_ | refine zH hf ?_ | refine zK (hc) ?_ | exact zF0 | refine zD fun hb => ?_ | exact zC | refine zT ?_ | fail))
end Go.Proofs.YtgcdbmcoendcdaaGreat
namespace Go.Proofs.YtgcdbmcoendcdaaGreat
attribute [local go_sem] List.length_append List.map_append
open Go.RowKit Arb
mutual
def pV : PT -> List D
 | .mk a l => [.s (.int .i64 a.kind), .s (.int .i64 a.n), .s (.string a.s), .nil, .osl 275 5 (pVL l)]
def pVL : List PT -> List (List D)
 | [] => []
 | t :: l => pV t :: pVL l
end
mutual
def pF : PT -> List D
 | .mk a l => [.s (.int .i64 a.kind), .s (.int .i64 a.n), .s (.string a.s), .nil, .sl 5 (pFL l)]
def pFL : List PT -> List (List D)
 | [] => []
 | t :: l => pF t :: pFL l
end
theorem pVL_map (l : List PT) : pVL l = l.map pV := by
 induction l with
 | nil => rfl
 | cons t l ih => rw [pVL, ih]; rfl
theorem pFL_map (l : List PT) : pFL l = l.map pF := by
 induction l with
 | nil => rfl
 | cons t l ih => rw [pFL, ih]; rfl
theorem wn (a : PI) (l : List PT) : pV (.mk a l) = [.s (.int .i64 a.kind), .s (.int .i64 a.n), .s (.string a.s), .nil, .osl 275 5 (l.map pV)] := by rw [pV, pVL_map]
theorem pF_mk (a : PI) (l : List PT) : pF (.mk a l) = [.s (.int .i64 a.kind), .s (.int .i64 a.n), .s (.string a.s), .nil, .sl 5 (l.map pF)] := by rw [pF, pFL_map]
theorem pV_pN (k n : Int) (s : ByteArray) (l : List PT) : pV (pN k n s l) = [.s (.int .i64 k), .s (.int .i64 n), .s (.string s), .nil, .osl 275 5 (l.map pV)] := wn _ _
theorem pV_frz : ∀ t : PT, frzL (pV t) = pF t := fun t => by
 induction t using Arb.ind with
 | h a l ih =>
  rw [wn, pF_mk]
  have : xJ (l.map pV) = l.map pF := by
   rw [yJ, List.map_map]
   exact List.map_congr_left fun x hx => ih x hx
  simp only [frzL, frz, this]
def nwD (d d' : D) : Prop := d' = d \/ (d = .nil /\ ((∃ k, d' = .sl k []) \/ ∃ e k, d' = .osl e k []))
theorem FCon.agWo {P : Program} {f : FuncId} {args : List D} {xs ys o : List D} (h : FCon P f args (fun r o' => r = .ag xs /\ o' = o)) (hl : ys.length = xs.length) (hc : ∀ (j : Nat) (x y : D), xs[j]? = some x -> ys[j]? = some y -> nwD x y) : FCon P f args (fun r o' => r = .ag ys /\ o' = o) := h.wk fun r o' e => by
 obtain ⟨rfl, rfl⟩ := e
 refine ⟨_, ⟨rfl, rfl⟩, fun g w v q => ?_⟩
 obtain ⟨us, rfl, h1, h2⟩ := q
 refine ⟨us, rfl, by rw [hl]; exact h1, fun l y u hy hu => ?_⟩
 have hlt : l < xs.length := by rw [<- hl]; exact (List.getElem?_eq_some_iff.1 hy).1
 have hx : xs[l]? = some xs[l] := List.getElem?_eq_getElem hlt
 have hr := h2 l _ u hx hu
 rcases hc l _ y hx hy with e | ⟨e, ⟨k, e'⟩ | ⟨e1, k, e'⟩⟩
 ·rw [e]; exact hr
 ·rw [e] at hr; subst e'; exact Rep.nil_sl k hr
 ·rw [e] at hr; subst e'; exact Rep.nil_osl e1 k hr
theorem FCon.pLeaf {P : Program} {f : FuncId} {args o : List D} {k n : Int} {s : ByteArray} (h : FCon P f args (fun r o' => r = .ag [.s (.int .i64 k), .s (.int .i64 n), .s (.string s), .nil, .nil] /\ o' = o)) : FCon P f args (fun r o' => r = .ag (pV (pN k n s [])) /\ o' = o) := by
 rw [pV_pN]
 refine h.agWo rfl fun j x y hx hy => ?_
 match j, hx, hy with
 | 0, hx, hy => left; rw [<- Option.some.inj hx, <- Option.some.inj hy]
 | 1, hx, hy => left; rw [<- Option.some.inj hx, <- Option.some.inj hy]
 | 2, hx, hy => left; rw [<- Option.some.inj hx, <- Option.some.inj hy]
 | 3, hx, hy => left; rw [<- Option.some.inj hx, <- Option.some.inj hy]
 | 4, hx, hy => right; exact ⟨(Option.some.inj hx).symm, .inr ⟨_, 5, (Option.some.inj hy).symm⟩⟩
theorem ba_of {g x : ByteArray} (h : (g.toList == x.toList) = true) : g = x := by
 rw [beq_iff_eq, ByteArray.toList_eq, ByteArray.toList_eq] at h
 exact ByteArray.ext (Array.ext' h)
def WF (T : List MTok) (s : PS) : Prop := s.i <= T.length /\ s.seen.length <= s.i
theorem Mo.wf {T : List MTok} {s s' : PS} (h : Mo T s s') (w : WF T s) : WF T s' := ⟨h.2.1 w.1, h.2.2.1 w.2⟩
def CPat (T : List MTok) (e : Int) (R : PS -> PT × PS) (d : Int) : Prop := ∀ s : PS, WF T s -> FCon Tryz.prog 245 [.opt (rdD T e s), .s (.int .i64 d)] (fun r o => r = .ag (pV (R s).1) /\ o = [.opt (rdD T e (R s).2), .un])
section
variable {T : List MTok} {e : Int} {R : PS -> PT × PS}
def PA (T : List MTok) (e : Int) (d : Int) (s : PS) (r : PT × PS) : Prop := FCon Tryz.prog 264 [.opt (rdD T e s), .s (.int .i64 d)] (fun x o => x = .ag (pV r.1) /\ o = [.opt (rdD T e r.2), .un])
theorem xaH (hT : T.length <= 10000) (d : Int) (s : PS) (hs : WF T s) (h3 : (tokS T e s).kind = 3) : PA T e d s (if Yi s (tokS T e s) = true then (P0, xx T e s 8) else (pN 2 0 (tokS T e s).s [], pushS s (tokS T e s).s)) := by
 have ht := xj T e s
 have hse := UD T e s (tokS T e s) (by have := hs.2; have := hs.1; omega)
 have hf := yz T e s 8
 have hlt := (xK (by rw [h3]; decide)).2
 have hsl : s.seen.length <= 10000 := by have := hs.2; have := hs.1; omega
 unfold PA
 generalize tokS T e s = t at *
 have f3 := kT h3
 rw [MTok.enc_eq, xg] at ht hse
 rw [xb, xb] at hf
 cases hq : Yi s t with
 | true =>
  rw [hq] at hse
  rw [if_pos rfl]
  refine FCon.pLeaf (k := 0) (n := 0) (s := nS) ?_
  rw [xb, xb]
  refine FI PM Tryz.func264 Tryz.ntmps264 [(7, 9, [8], [(8, 0)], (lin [8] [0, 1, 2, 3, 4, 5, 6, 7, 8]))] rfl rfl ?_
  (have hWf := w3 @xe @xd @f3; repeat' (first | refine zS ?_ | refine zI ?_ ?_ | refine zK (ht) ?_ | refine zK (hse) ?_ | refine zH hf ?_ | exact zF0 | refine zD fun hb => ?_ | exact zC | refine zT ?_ | fail))
  all_goals rfl
 | false =>
  rw [hq] at hse
  rw [if_neg (by decide)]
  refine FCon.pLeaf ?_
  show FCon _ _ _ (fun x o => _ /\ o = [.opt (rdD T e (pushS s t.s)), .un])
  unfold pushS
  rw [xb, xb]
  refine FI PM Tryz.func264 Tryz.ntmps264 [(7, 9, [8], [(8, 0)], (lin [8] [0, 1, 2, 3, 4, 5, 6, 7, 8]))] rfl rfl ?_
  (have hWf := w3 @xe @xd @f3; repeat' (first | refine zS ?_ | refine zI ?_ ?_ | refine zK (ht) ?_ | refine zK (hse) ?_ | exact zF0 | refine zD fun hb => ?_ | exact zC | refine zT ?_ | fail))
  all_goals rfl
theorem patom_int (hT : T.length <= 10000) (d : Int) (s : PS) (h1 : (tokS T e s).kind = 1) : PA T e d s (pN 3 (tokS T e s).n nS [], advS s) := by
 have ht := xj T e s
 have hlt := (xK (by rw [h1]; decide)).2
 unfold PA
 generalize tokS T e s = t at *
 have f3 : (t.kind == 3) = false := by rw [h1]; rfl
 have f1 := kT h1
 rw [MTok.enc_eq, xg] at ht
 refine FCon.pLeaf ?_
 show FCon _ _ _ (fun x o => _ /\ o = [.opt (rdD T e (advS s)), .un])
 unfold advS
 rw [xb, xb]
 refine FI PM Tryz.func264 Tryz.ntmps264 [(7, 9, [8], [(8, 0)], (lin [8] [0, 1, 2, 3, 4, 5, 6, 7, 8]))] rfl rfl ?_
 (have hWf := w4 @xe @xd @f3 @f1; repeat' (first | refine zS ?_ | refine zI ?_ ?_ | refine zK (ht) ?_ | exact zF0 | refine zD fun hb => ?_ | exact zC | refine zT ?_ | fail))
 all_goals rfl
theorem V5 (u : MTok) : wW u = true ↔ ((((((((u.kind = 3 \/ u.kind = 1) \/ u.kind = 4) \/ (sgT u).toList = ((⟨#[95]⟩ : ByteArray)).toList) \/ (sgT u).toList = ((⟨#[45]⟩ : ByteArray)).toList) \/ (sgT u).toList = ((⟨#[40]⟩ : ByteArray)).toList) \/ (sgT u).toList = ((⟨#[91]⟩ : ByteArray)).toList) \/ (sgT u).toList = ((⟨#[116, 114, 117, 101]⟩ : ByteArray)).toList) \/ (sgT u).toList = ((⟨#[102, 97, 108, 115, 101]⟩ : ByteArray)).toList) := by
 unfold wW inT isT
 simp only [List.any_cons, List.any_nil, Bool.or_false, Bool.or_eq_true, decide_eq_true_eq, beq_iff_eq, or_assoc]
theorem xaF (hT : T.length <= 10000) (d : Int) (s : PS) (h4 : (tokS T e s).kind = 4) (hpb : wW (tokS T e (advS s)) = false) : PA T e d s (pN 4 0 (tokS T e s).s [], advS s) := by
 have ht := xj T e s
 have hu := xj T e (advS s)
 have hg := xz (tokS T e (advS s))
 have hlt := (xK (by rw [h4]; decide)).2
 have hno : ¬ _ := fun q => by rw [(V5 (tokS T e (advS s))).2 q] at hpb; cases hpb
 unfold PA
 generalize tokS T e s = t at *
 generalize tokS T e (advS s) = u at *
 have f3 : (t.kind == 3) = false := by rw [h4]; rfl
 have f1 : (t.kind == 1) = false := by rw [h4]; rfl
 have f4 := kT h4
 unfold advS at hu
 rw [MTok.enc_eq, xg] at ht hu
 rw [MTok.enc_eq] at hg
 refine FCon.pLeaf ?_
 show FCon _ _ _ (fun x o => _ /\ o = [.opt (rdD T e (advS s)), .un])
 unfold advS
 rw [xb, xb]
 refine FI PM Tryz.func264 Tryz.ntmps264 [(7, 9, [8], [(8, 0)], (lin [8] [0, 1, 2, 3, 4, 5, 6, 7, 8]))] rfl rfl ?_
 (have hWf := w5 @xe @xd @f3 @f1 @f4; repeat' (first | refine zS ?_ | refine zI ?_ ?_ | refine zK (ht) ?_ | refine zK (hu) ?_ | refine zK (hg) ?_ | exact zF0 | refine zD fun hb => ?_ | exact zC | refine zT ?_ | fail))
 all_goals first
  | rfl
  | (exfalso; apply hno; simp only [or_assoc] at hb ⊢; exact hb)
theorem xaG (hT : T.length <= 10000) (d : Int) (s : PS) (h4 : (tokS T e s).kind = 4) (hpb : wW (tokS T e (advS s)) = true) {a : PT} {s1 : PS} (hi : PA T e d (advS s) (a, s1)) : PA T e d s (pN 4 0 (tokS T e s).s [a], s1) := by
 have ht := xj T e s
 have hu := xj T e (advS s)
 have hg := xz (tokS T e (advS s))
 have hlt := (xK (by rw [h4]; decide)).2
 have hyes := (V5 (tokS T e (advS s))).1 hpb
 unfold PA at *
 generalize tokS T e s = t at *
 generalize tokS T e (advS s) = u at *
 have f3 : (t.kind == 3) = false := by rw [h4]; rfl
 have f1 : (t.kind == 1) = false := by rw [h4]; rfl
 have f4 := kT h4
 unfold advS at hu hi
 rw [MTok.enc_eq, xg] at ht hu
 rw [MTok.enc_eq] at hg
 obtain ⟨b, l⟩ := a
 simp only at hi ⊢
 rw [pV_pN, List.map_cons, List.map_nil]
 rw [wn, xb, xb] at hi
 rw [wn, xb, xb]
 refine FI PM Tryz.func264 Tryz.ntmps264 [(7, 9, [8], [(8, 0)], (lin [8] [0, 1, 2, 3, 4, 5, 6, 7, 8]))] rfl rfl ?_
 (have hWf := w5 @xe @xd @f3 @f1 @f4; repeat' (first | refine zS ?_ | refine zI ?_ ?_ | refine zK (ht) ?_ | refine zK (hu) ?_ | refine zK (hg) ?_ | refine zH hi ?_ | exact zF0 | refine zD fun hb => ?_ | exact zC | refine zT ?_ | fail))
 all_goals first
  | rfl
  | (exfalso; simp only [ne_eq, <- not_or, or_assoc] at hb hyes; exact hb hyes)
theorem tok_n (T : List MTok) (e : Int) (s : PS) (hT : ∀ t ∈ T, -4611686018427387904 <= t.n /\ t.n <= 4611686018427387904) : -4611686018427387904 <= (tokS T e s).n /\ (tokS T e s).n <= 4611686018427387904 := by
 by_cases h : s.code = 0 /\ s.i < T.length
 ·rw [tok_at h.1 h.2]; exact hT _ (List.getElem_mem h.2)
 ·rw [Yk h]; exact ⟨by show (-4611686018427387904 : Int) <= 0; omega, by show (0 : Int) <= 4611686018427387904; omega⟩
theorem xaL (hT : T.length <= 10000) (d : Int) (hd : 0 <= d /\ d <= 1000) (s : PS) (h3 : ¬ (tokS T e s).kind = 3) (h1 : ¬ (tokS T e s).kind = 1) (h4 : ¬ (tokS T e s).kind = 4) (h : isS T e s (⟨#[95]⟩ : ByteArray) = true) : PA T e d s (pN 1 0 nS [], advS s) := by
 have ht := xj T e s
 have hg := xz (tokS T e s)
 have hlt := (xt h (xa (l := [95]) (by simp))).2
 unfold PA at *
 simp only [x5] at *
 generalize tokS T e s = t at *
 have f3 := kF h3
 have f1 := kF h1
 have f4 := kF h4
 rw [MTok.enc_eq, xg] at ht
 rw [MTok.enc_eq] at hg
 refine FCon.pLeaf ?_
 show FCon _ _ _ (fun x o => _ /\ o = [.opt (rdD T e (advS s)), .un])
 unfold advS
 rw [xb, xb]
 refine FI PM Tryz.func264 Tryz.ntmps264 [(7, 9, [8], [(8, 0)], (lin [8] [0, 1, 2, 3, 4, 5, 6, 7, 8]))] rfl rfl ?_
 (have hWf := w6 @xe @xd @f3 @f1 @f4 @h; repeat' (first | refine zS ?_ | refine zI ?_ ?_ | refine zK (ht) ?_ | refine zK (hg) ?_ | exact zF0 | refine zD fun hb => ?_ | exact zC | refine zT ?_ | fail))
 all_goals rfl
theorem xaJ (hT : T.length <= 10000) (d : Int) (hd : 0 <= d /\ d <= 1000) (s : PS) (h3 : ¬ (tokS T e s).kind = 3) (h1 : ¬ (tokS T e s).kind = 1) (h4 : ¬ (tokS T e s).kind = 4) (n0 : isS T e s (⟨#[95]⟩ : ByteArray) = false) (h : isS T e s (⟨#[116, 114, 117, 101]⟩ : ByteArray) = true) : PA T e d s (pN 4 0 (⟨#[116, 114, 117, 101]⟩ : ByteArray) [], advS s) := by
 have ht := xj T e s
 have hg := xz (tokS T e s)
 have hlt := (xt h (xa (l := [116, 114, 117, 101]) (by simp))).2
 unfold PA at *
 simp only [x5] at *
 generalize tokS T e s = t at *
 have f3 := kF h3
 have f1 := kF h1
 have f4 := kF h4
 rw [MTok.enc_eq, xg] at ht
 rw [MTok.enc_eq] at hg
 refine FCon.pLeaf ?_
 show FCon _ _ _ (fun x o => _ /\ o = [.opt (rdD T e (advS s)), .un])
 unfold advS
 rw [xb, xb]
 have hba := ba_of h
 refine FI PM Tryz.func264 Tryz.ntmps264 [(7, 9, [8], [(8, 0)], (lin [8] [0, 1, 2, 3, 4, 5, 6, 7, 8]))] rfl rfl ?_
 (have hWf := w7 @xe @xd @f3 @f1 @f4 @n0 @h; repeat' (first | refine zS ?_ | refine zI ?_ ?_ | refine zK (ht) ?_ | refine zK (hg) ?_ | exact zF0 | refine zD fun hb => ?_ | exact zC | refine zT ?_ | fail))
 all_goals first | rfl | rw [hba]
theorem QQ (hT : T.length <= 10000) (d : Int) (hd : 0 <= d /\ d <= 1000) (s : PS) (h3 : ¬ (tokS T e s).kind = 3) (h1 : ¬ (tokS T e s).kind = 1) (h4 : ¬ (tokS T e s).kind = 4) (n0 : isS T e s (⟨#[95]⟩ : ByteArray) = false) (n1 : isS T e s (⟨#[116, 114, 117, 101]⟩ : ByteArray) = false) (h : isS T e s (⟨#[102, 97, 108, 115, 101]⟩ : ByteArray) = true) : PA T e d s (pN 4 0 (⟨#[102, 97, 108, 115, 101]⟩ : ByteArray) [], advS s) := by
 have ht := xj T e s
 have hg := xz (tokS T e s)
 have hlt := (xt h (xa (l := [102, 97, 108, 115, 101]) (by simp))).2
 unfold PA at *
 simp only [x5] at *
 generalize tokS T e s = t at *
 have f3 := kF h3
 have f1 := kF h1
 have f4 := kF h4
 rw [MTok.enc_eq, xg] at ht
 rw [MTok.enc_eq] at hg
 refine FCon.pLeaf ?_
 show FCon _ _ _ (fun x o => _ /\ o = [.opt (rdD T e (advS s)), .un])
 unfold advS
 rw [xb, xb]
 have hba := ba_of h
 refine FI PM Tryz.func264 Tryz.ntmps264 [(7, 9, [8], [(8, 0)], (lin [8] [0, 1, 2, 3, 4, 5, 6, 7, 8]))] rfl rfl ?_
 (have hWf := w8 @xe @xd @f3 @f1 @f4 @n0 @n1 @h; repeat' (first | refine zS ?_ | refine zI ?_ ?_ | refine zK (ht) ?_ | refine zK (hg) ?_ | exact zF0 | refine zD fun hb => ?_ | exact zC | refine zT ?_ | fail))
 all_goals first | rfl | rw [hba]
theorem patom_nil (hT : T.length <= 10000) (d : Int) (hd : 0 <= d /\ d <= 1000) (s : PS) (h3 : ¬ (tokS T e s).kind = 3) (h1 : ¬ (tokS T e s).kind = 1) (h4 : ¬ (tokS T e s).kind = 4) (n0 : isS T e s (⟨#[95]⟩ : ByteArray) = false) (n1 : isS T e s (⟨#[116, 114, 117, 101]⟩ : ByteArray) = false) (n2 : isS T e s (⟨#[102, 97, 108, 115, 101]⟩ : ByteArray) = false) (h : isS T e s (⟨#[91]⟩ : ByteArray) = true) : PA T e d s (pN 4 0 (⟨#[91, 93]⟩ : ByteArray) [], xf T e (advS s) (⟨#[93]⟩ : ByteArray)) := by
 have ht := xj T e s
 have hg := xz (tokS T e s)
 have hlt := (xt h (xa (l := [91]) (by simp))).2
 have htk := xy T e (advS s) (by omega) (⟨#[93]⟩ : ByteArray) (xa (l := [93]) (by simp))
 unfold PA at *
 simp only [x5] at *
 generalize tokS T e s = t at *
 have f3 := kF h3
 have f1 := kF h1
 have f4 := kF h4
 rw [MTok.enc_eq, xg] at ht
 rw [MTok.enc_eq] at hg
 refine FCon.pLeaf ?_
 show FCon _ _ _ (fun x o => _ /\ o = [.opt (rdD T e (xf T e (advS s) (⟨#[93]⟩ : ByteArray))), .un])
 generalize xf T e (advS s) (⟨#[93]⟩ : ByteArray) = s2 at *
 unfold advS at htk
 rw [xb, xb] at htk
 rw [xb, xb]
 refine FI PM Tryz.func264 Tryz.ntmps264 [(7, 9, [8], [(8, 0)], (lin [8] [0, 1, 2, 3, 4, 5, 6, 7, 8]))] rfl rfl ?_
 (have hWf := w9 @xe @xd @f3 @f1 @f4 @n0 @n1 @n2 @h; repeat' (first | refine zS ?_ | refine zI ?_ ?_ | refine zK (ht) ?_ | refine zK (hg) ?_ | refine zH htk ?_ | exact zF0 | refine zD fun hb => ?_ | exact zC | refine zT ?_ | fail))
 all_goals rfl
theorem QR (hT : T.length <= 10000) (d : Int) (hd : 0 <= d /\ d <= 1000) (hTn : ∀ t ∈ T, -4611686018427387904 <= t.n /\ t.n <= 4611686018427387904) (s : PS) (h3 : ¬ (tokS T e s).kind = 3) (h1 : ¬ (tokS T e s).kind = 1) (h4 : ¬ (tokS T e s).kind = 4) (n0 : isS T e s (⟨#[95]⟩ : ByteArray) = false) (n1 : isS T e s (⟨#[116, 114, 117, 101]⟩ : ByteArray) = false) (n2 : isS T e s (⟨#[102, 97, 108, 115, 101]⟩ : ByteArray) = false) (n3 : isS T e s (⟨#[91]⟩ : ByteArray) = false) (h : isS T e s (⟨#[45]⟩ : ByteArray) = true) : PA T e d s (pN 3 (-(tokS T e (advS s)).n) nS [], (xp T e (advS s) 1).2) := by
 have ht := xj T e s
 have hg := xz (tokS T e s)
 have hlt := (xt h (xa (l := [45]) (by simp))).2
 have hu := xj T e (advS s)
 have hw := yq T e (advS s) (by omega) 1 (by decide)
 have hn := tok_n T e (advS s) hTn
 unfold PA at *
 simp only [x5] at *
 generalize tokS T e s = t at *
 have f3 := kF h3
 have f1 := kF h1
 have f4 := kF h4
 rw [MTok.enc_eq, xg] at ht
 rw [MTok.enc_eq] at hg
 refine FCon.pLeaf ?_
 show FCon _ _ _ (fun x o => x = .ag [.s (.int .i64 3), .s (.int .i64 (-(tokS T e (advS s)).n)), .s (.string nS), .nil, .nil] /\ o = [.opt (rdD T e (xp T e (advS s) 1).2), .un])
 rcases hq : xp T e (advS s) 1 with ⟨nm, s2⟩
 rw [hq] at hw
 simp only at hw ⊢
 generalize tokS T e (advS s) = u at *
 unfold advS at hw hu
 rw [xb, xb] at hw
 rw [MTok.enc_eq, xg] at hu
 rw [xb, xb]
 refine FI PM Tryz.func264 Tryz.ntmps264 [(7, 9, [8], [(8, 0)], (lin [8] [0, 1, 2, 3, 4, 5, 6, 7, 8]))] rfl rfl ?_
 (have hWf := w10 @xe @xd @f3 @f1 @f4 @n0 @n1 @n2 @n3 @h; repeat' (first | refine zS ?_ | refine zI ?_ ?_ | refine zK (ht) ?_ | refine zK (hg) ?_ | refine zK (hu) ?_ | refine zH hw ?_ | exact zF0 | refine zD fun hb => ?_ | exact zC | refine zT ?_ | fail))
 all_goals first | rfl | (rw [Int.zero_sub]; rfl)
theorem xaK (hT : T.length <= 10000) (d : Int) (hd : 0 <= d /\ d <= 1000) (s : PS) (h3 : ¬ (tokS T e s).kind = 3) (h1 : ¬ (tokS T e s).kind = 1) (h4 : ¬ (tokS T e s).kind = 4) (n0 : isS T e s (⟨#[95]⟩ : ByteArray) = false) (n1 : isS T e s (⟨#[116, 114, 117, 101]⟩ : ByteArray) = false) (n2 : isS T e s (⟨#[102, 97, 108, 115, 101]⟩ : ByteArray) = false) (n3 : isS T e s (⟨#[91]⟩ : ByteArray) = false) (n4 : isS T e s (⟨#[45]⟩ : ByteArray) = false) (h : isS T e s (⟨#[40]⟩ : ByteArray) = true) (h2 : isS T e (advS s) (⟨#[41]⟩ : ByteArray) = true) : PA T e d s (pN 6 0 nS [], advS (advS s)) := by
 have ht := xj T e s
 have hg := xz (tokS T e s)
 have hlt := (xt h (xa (l := [40]) (by simp))).2
 have his := xw T e (advS s) (⟨#[41]⟩ : ByteArray)
 have hlt2 := (xt h2 (xa (l := [41]) (by simp))).2
 rw [h2] at his
 unfold PA at *
 simp only [x5] at *
 generalize tokS T e s = t at *
 have f3 := kF h3
 have f1 := kF h1
 have f4 := kF h4
 rw [MTok.enc_eq, xg] at ht
 rw [MTok.enc_eq] at hg
 refine FCon.pLeaf ?_
 show FCon _ _ _ (fun x o => _ /\ o = [.opt (rdD T e (advS (advS s))), .un])
 clear h2
 unfold advS at *
 rw [xg] at his
 rw [xb, xb]
 refine FI PM Tryz.func264 Tryz.ntmps264 [(7, 9, [8], [(8, 0)], (lin [8] [0, 1, 2, 3, 4, 5, 6, 7, 8]))] rfl rfl ?_
 (have hWf := w11 @xe @xd @f3 @f1 @f4 @n0 @n1 @n2 @n3 @n4 @h; repeat' (first | refine zS ?_ | refine zI ?_ ?_ | refine zK (ht) ?_ | refine zK (hg) ?_ | refine zK (his) ?_ | exact zF0 | refine zD fun hb => ?_ | exact zC | refine zT ?_ | fail))
 all_goals rfl
theorem patom_par (hT : T.length <= 10000) (d : Int) (hd : 0 <= d /\ d <= 1000) (s : PS) (h3 : ¬ (tokS T e s).kind = 3) (h1 : ¬ (tokS T e s).kind = 1) (h4 : ¬ (tokS T e s).kind = 4) (n0 : isS T e s (⟨#[95]⟩ : ByteArray) = false) (n1 : isS T e s (⟨#[116, 114, 117, 101]⟩ : ByteArray) = false) (n2 : isS T e s (⟨#[102, 97, 108, 115, 101]⟩ : ByteArray) = false) (n3 : isS T e s (⟨#[91]⟩ : ByteArray) = false) (n4 : isS T e s (⟨#[45]⟩ : ByteArray) = false) (h : isS T e s (⟨#[40]⟩ : ByteArray) = true) (h2 : isS T e (advS s) (⟨#[41]⟩ : ByteArray) = false) (hR : CPat T e R (d + 1)) (w1 : WF T (advS s)) (h5 : isS T e (R (advS s)).2 (⟨#[44]⟩ : ByteArray) = false) : PA T e d s ((R (advS s)).1, xf T e (R (advS s)).2 (⟨#[41]⟩ : ByteArray)) := by
 have ht := xj T e s
 have hg := xz (tokS T e s)
 have hlt := (xt h (xa (l := [40]) (by simp))).2
 have his := xw T e (advS s) (⟨#[41]⟩ : ByteArray)
 rw [h2] at his
 have hr := hR (advS s) w1
 have hic := xw T e (R (advS s)).2 (⟨#[44]⟩ : ByteArray)
 rw [h5] at hic
 have htk := xy T e (R (advS s)).2 (by omega) (⟨#[41]⟩ : ByteArray) (xa (l := [41]) (by simp))
 clear h2 h5
 unfold PA at *
 simp only [x5] at *
 generalize tokS T e s = t at *
 have f3 := kF h3
 have f1 := kF h1
 have f4 := kF h4
 rw [MTok.enc_eq, xg] at ht
 rw [MTok.enc_eq] at hg
 rcases hq : R (advS s) with ⟨⟨a, l⟩, s1⟩
 rw [hq] at hr hic htk
 simp only at hr hic htk ⊢
 generalize xf T e s1 (⟨#[41]⟩ : ByteArray) = s2 at *
 unfold advS at *
 rw [wn, xb, xb] at hr
 rw [xb, xb] at htk
 rw [xg] at his hic
 rw [wn, xb, xb]
 refine FI PM Tryz.func264 Tryz.ntmps264 [(7, 9, [8], [(8, 0)], (lin [8] [0, 1, 2, 3, 4, 5, 6, 7, 8]))] rfl rfl ?_
 (have hWf := w11 @xe @xd @f3 @f1 @f4 @n0 @n1 @n2 @n3 @n4 @h; repeat' (first | refine zS ?_ | refine zI ?_ ?_ | refine zK (ht) ?_ | refine zK (hg) ?_ | refine zK (his) ?_ | refine zH hr ?_ | refine zK (hic) ?_ | refine zH htk ?_ | exact zF0 | refine zD fun hb => ?_ | exact zC | refine zT ?_ | fail))
 all_goals rfl
theorem xaI (hT : T.length <= 10000) (d : Int) (hd : 0 <= d /\ d <= 1000) (s : PS) (h3 : ¬ (tokS T e s).kind = 3) (h1 : ¬ (tokS T e s).kind = 1) (h4 : ¬ (tokS T e s).kind = 4) (n0 : isS T e s (⟨#[95]⟩ : ByteArray) = false) (n1 : isS T e s (⟨#[116, 114, 117, 101]⟩ : ByteArray) = false) (n2 : isS T e s (⟨#[102, 97, 108, 115, 101]⟩ : ByteArray) = false) (n3 : isS T e s (⟨#[91]⟩ : ByteArray) = false) (n4 : isS T e s (⟨#[45]⟩ : ByteArray) = false) (h : isS T e s (⟨#[40]⟩ : ByteArray) = true) (h2 : isS T e (advS s) (⟨#[41]⟩ : ByteArray) = false) (hR : CPat T e R (d + 1)) (w1 : WF T (advS s)) (h5 : isS T e (R (advS s)).2 (⟨#[44]⟩ : ByteArray) = true) (w2 : WF T (advS (R (advS s)).2)) : PA T e d s (pN 5 0 nS [(R (advS s)).1, (R (advS (R (advS s)).2)).1], xf T e (R (advS (R (advS s)).2)).2 (⟨#[41]⟩ : ByteArray)) := by
 have ht := xj T e s
 have hg := xz (tokS T e s)
 have hlt := (xt h (xa (l := [40]) (by simp))).2
 have his := xw T e (advS s) (⟨#[41]⟩ : ByteArray)
 rw [h2] at his
 have hr := hR (advS s) w1
 have hic := xw T e (R (advS s)).2 (⟨#[44]⟩ : ByteArray)
 have hlt2 := (xt h5 (xa (l := [44]) (by simp))).2
 rw [h5] at hic
 have hr2 := hR (advS (R (advS s)).2) w2
 have htk := xy T e (R (advS (R (advS s)).2)).2 (by omega) (⟨#[41]⟩ : ByteArray) (xa (l := [41]) (by simp))
 clear h2 h5 w1 w2
 unfold PA at *
 simp only [x5] at *
 generalize tokS T e s = t at *
 have f3 := kF h3
 have f1 := kF h1
 have f4 := kF h4
 rw [MTok.enc_eq, xg] at ht
 rw [MTok.enc_eq] at hg
 rcases hq : R (advS s) with ⟨⟨a, l⟩, s1⟩
 rw [hq] at hr hic htk hr2 hlt2
 simp only at hr hic htk hr2 hlt2 ⊢
 rcases hq2 : R (advS s1) with ⟨⟨b, r⟩, s2⟩
 rw [hq2] at htk hr2
 simp only at htk hr2 ⊢
 generalize xf T e s2 (⟨#[41]⟩ : ByteArray) = s3 at *
 clear hq hq2
 unfold advS at *
 rw [wn, xb, xb] at hr hr2
 rw [xb, xb] at htk
 rw [xg] at his hic
 rw [pV_pN, List.map_cons, List.map_cons, List.map_nil, wn, wn, xb, xb]
 refine FI PM Tryz.func264 Tryz.ntmps264 [(7, 9, [8], [(8, 0)], (lin [8] [0, 1, 2, 3, 4, 5, 6, 7, 8]))] rfl rfl ?_
 (have hWf := w11 @xe @xd @f3 @f1 @f4 @n0 @n1 @n2 @n3 @n4 @h; repeat' (first | refine zS ?_ | refine zI ?_ ?_ | refine zK (ht) ?_ | refine zK (hg) ?_ | refine zK (his) ?_ | refine zH hr ?_ | refine zK (hic) ?_ | refine zH hr2 ?_ | refine zH htk ?_ | exact zF0 | refine zD fun hb => ?_ | exact zC | refine zT ?_ | fail))
 all_goals rfl
theorem patom_no (hT : T.length <= 10000) (d : Int) (hd : 0 <= d /\ d <= 1000) (s : PS) (h3 : ¬ (tokS T e s).kind = 3) (h1 : ¬ (tokS T e s).kind = 1) (h4 : ¬ (tokS T e s).kind = 4) (n0 : isS T e s (⟨#[95]⟩ : ByteArray) = false) (n1 : isS T e s (⟨#[116, 114, 117, 101]⟩ : ByteArray) = false) (n2 : isS T e s (⟨#[102, 97, 108, 115, 101]⟩ : ByteArray) = false) (n3 : isS T e s (⟨#[91]⟩ : ByteArray) = false) (n4 : isS T e s (⟨#[45]⟩ : ByteArray) = false) (n5 : isS T e s (⟨#[40]⟩ : ByteArray) = false) : PA T e d s (P0, xx T e s 7) := by
 have ht := xj T e s
 have hg := xz (tokS T e s)
 have hf := yz T e s 7
 unfold PA at *
 simp only [x5] at *
 generalize tokS T e s = t at *
 have f3 := kF h3
 have f1 := kF h1
 have f4 := kF h4
 rw [MTok.enc_eq, xg] at ht
 rw [MTok.enc_eq] at hg
 refine FCon.pLeaf (k := 0) (n := 0) (s := nS) ?_
 rw [xb, xb] at hf
 rw [xb, xb]
 refine FI PM Tryz.func264 Tryz.ntmps264 [(7, 9, [8], [(8, 0)], (lin [8] [0, 1, 2, 3, 4, 5, 6, 7, 8]))] rfl rfl ?_
 (have hWf := w11 @xe @xd @f3 @f1 @f4 @n0 @n1 @n2 @n3 @n4 @n5; repeat' (first | refine zS ?_ | refine zI ?_ ?_ | refine zK (ht) ?_ | refine zK (hg) ?_ | refine zH hf ?_ | exact zF0 | refine zD fun hb => ?_ | exact zC | refine zT ?_ | fail))
 all_goals rfl
theorem bF {b : Bool} (h : ¬ b = true) : b = false := by simpa using h
theorem xad (hT : T.length <= 10000) (hTn : ∀ t ∈ T, -4611686018427387904 <= t.n /\ t.n <= 4611686018427387904) (d : Int) (hd : 0 <= d /\ d <= 999) (hR : CPat T e R (d + 1)) (hB : ∀ s, PB T s (R s)) (n : Nat) : ∀ s, T.length - s.i < n -> WF T s -> PA T e d s (z8 T e R n s) := by
 have hd' : 0 <= d /\ d <= 1000 := ⟨hd.1, by omega⟩
 induction n with
 | zero => intro s h; omega
 | succ n ih =>
  intro s hn hs
  rw [z8]
  by_cases h3 : (tokS T e s).kind = 3
  ·rw [if_pos h3]; exact xaH hT d s hs h3
  rw [if_neg h3]
  by_cases h1 : (tokS T e s).kind = 1
  ·rw [if_pos h1]; exact patom_int hT d s h1
  rw [if_neg h1]
  by_cases h4 : (tokS T e s).kind = 4
  ·rw [if_pos h4]
   have hlt := (xK (T := T) (e := e) (s := s) (by rw [h4]; decide)).2
   by_cases hb : wW (tokS T e (advS s)) = true
   ·rw [if_pos hb]
    have := ih (advS s) (by show T.length - (s.i + 1) < n; omega) ((Mo.adv hlt).wf hs)
    rcases hq : z8 T e R n (advS s) with ⟨a, s1⟩
    rw [hq] at this
    exact xaG hT d s h4 hb this
   ·rw [if_neg hb]; exact xaF hT d s h4 (bF hb)
  rw [if_neg h4]
  by_cases n0 : isS T e s (⟨#[95]⟩ : ByteArray) = true
  ·rw [if_pos n0]; exact xaL hT d hd' s h3 h1 h4 n0
  rw [if_neg n0]
  by_cases n1 : isS T e s (⟨#[116, 114, 117, 101]⟩ : ByteArray) = true
  ·rw [if_pos n1]; exact xaJ hT d hd' s h3 h1 h4 (bF n0) n1
  rw [if_neg n1]
  by_cases n2 : isS T e s (⟨#[102, 97, 108, 115, 101]⟩ : ByteArray) = true
  ·rw [if_pos n2]; exact QQ hT d hd' s h3 h1 h4 (bF n0) (bF n1) n2
  rw [if_neg n2]
  by_cases n3 : isS T e s (⟨#[91]⟩ : ByteArray) = true
  ·rw [if_pos n3]; exact patom_nil hT d hd' s h3 h1 h4 (bF n0) (bF n1) (bF n2) n3
  rw [if_neg n3]
  by_cases n4 : isS T e s (⟨#[45]⟩ : ByteArray) = true
  ·rw [if_pos n4]; exact QR hT d hd' hTn s h3 h1 h4 (bF n0) (bF n1) (bF n2) (bF n3) n4
  rw [if_neg n4]
  by_cases n5 : isS T e s (⟨#[40]⟩ : ByteArray) = true
  ·rw [if_pos n5]
   have m1 := Mo.advS n5 (xa (l := [40]) (by simp))
   by_cases h2 : isS T e (advS s) (⟨#[41]⟩ : ByteArray) = true
   ·rw [if_pos h2]; exact xaK hT d hd' s h3 h1 h4 (bF n0) (bF n1) (bF n2) (bF n3) (bF n4) n5 h2
   rw [if_neg h2]
   show PA T e d s (if isS T e (R (advS s)).2 (⟨#[44]⟩ : ByteArray) = true then (pN 5 0 nS [(R (advS s)).1, (R (advS (R (advS s)).2)).1], xf T e (R (advS (R (advS s)).2)).2 (⟨#[41]⟩ : ByteArray)) else ((R (advS s)).1, xf T e (R (advS s)).2 (⟨#[41]⟩ : ByteArray)))
   by_cases h5 : isS T e (R (advS s)).2 (⟨#[44]⟩ : ByteArray) = true
   ·rw [if_pos h5]; exact xaI hT d hd' s h3 h1 h4 (bF n0) (bF n1) (bF n2) (bF n3) (bF n4) n5 (bF h2) hR (m1.wf hs) h5 ((Mo.advS h5 (xa (l := [44]) (by simp))).wf ((hB (advS s)).1.wf (m1.wf hs)))
   ·rw [if_neg h5]; exact patom_par hT d hd' s h3 h1 h4 (bF n0) (bF n1) (bF n2) (bF n3) (bF n4) n5 (bF h2) hR (m1.wf hs) (bF h5)
  ·rw [if_neg n5]; exact patom_no hT d hd' s h3 h1 h4 (bF n0) (bF n1) (bF n2) (bF n3) (bF n4) (bF n5)
theorem VE (hT : T.length <= 10000) (hTn : ∀ t ∈ T, -4611686018427387904 <= t.n /\ t.n <= 4611686018427387904) (d : Int) (hd0 : 0 <= d) (hd1 : d <= 100) (hR : CPat T e R (d + 1)) (hB : ∀ s, PB T s (R s)) : CPat T e (uV T e R) d := by
 intro s hs
 have hdd : decide ((100 : Int) < d) = false := decide_eq_false (by omega)
 unfold uV
 by_cases z0 : s.code = 0
 ·have f0 := knT z0
  rw [if_pos z0]
  have hp := xad hT hTn d ⟨hd0, by omega⟩ hR hB (T.length + 1) s (by omega) hs
  have bp := patom_b hB (e := e) (T.length + 1) s
  unfold PA at hp
  rcases hq : z8 T e R (T.length + 1) s with ⟨⟨a, l⟩, s1⟩
  rw [hq] at hp bp
  simp only at hp bp ⊢
  have his := xw T e s1 (⟨#[58, 58]⟩ : ByteArray)
  cases hst : isS T e s1 (⟨#[58, 58]⟩ : ByteArray) with
  | true =>
   have hlt := xt hst (xa (l := [58, 58]) (by simp))
   rw [hst] at his
   rw [if_pos rfl]
   have hr := hR (advS s1) ((Mo.advS hst (xa (l := [58, 58]) (by simp))).wf (bp.1.wf hs))
   rcases hqr : R (advS s1) with ⟨⟨b, r⟩, s2⟩
   rw [hqr] at hr
   simp only at hr ⊢
   unfold advS at hr
   rw [wn, xb, xb] at hr hp
   rw [xg] at his
   rw [pV_pN, List.map_cons, List.map_nil, pV_pN, List.map_cons, List.map_cons, List.map_nil, wn, wn, xb, xb]
   refine FI PM Tryz.func245 Tryz.ntmps245 [] rfl rfl ?_
   (have hWf := w4 @xe @xd @f0 @hdd; repeat' (first | refine zS ?_ | refine zI ?_ ?_ | refine zH hp ?_ | refine zK (his) ?_ | refine zH hr ?_ | exact zF0 | refine zD fun hb => ?_ | exact zC | refine zT ?_ | fail))
   all_goals rfl
  | false =>
   rw [hst] at his
   rw [if_neg (by decide)]
   rw [wn, xb, xb] at hp
   rw [xg] at his
   rw [wn, xb, xb]
   refine FI PM Tryz.func245 Tryz.ntmps245 [] rfl rfl ?_
   (have hWf := w4 @xe @xd @f0 @hdd; repeat' (first | refine zS ?_ | refine zI ?_ ?_ | refine zH hp ?_ | refine zK (his) ?_ | exact zF0 | refine zD fun hb => ?_ | exact zC | refine zT ?_ | fail))
   all_goals rfl
 ·have f0 := knF z0
  rw [if_neg z0]
  refine FCon.pLeaf (k := 0) (n := 0) (s := nS) ?_
  rw [xb]
  refine FI PM Tryz.func245 Tryz.ntmps245 [] rfl rfl ?_
  (have hWf := w1 @f0; repeat' (first | refine zS ?_ | refine zI ?_ ?_ | exact zF0 | refine zD fun hb => ?_ | exact zC | refine zT ?_ | fail))
  all_goals rfl
theorem Qx (hT : T.length <= 10000) : CPat T e (patF T e 0) 101 := by
 intro s hs
 have hsl : s.seen.length <= 1000000 := by have := hs.1; have := hs.2; omega
 have ht := xj T e s
 have hse := UD T e s (tokS T e s) hsl
 have hf := yz T e s 8
 have hpb := VD T e s
 have hd := Yz T e s (wW (tokS T e s))
 unfold patF
 generalize tokS T e s = t at *
 rw [MTok.enc_eq, xg] at ht hse
 rw [xg] at hpb
 by_cases z0 : s.code = 0
 ·have f0 := knT z0
  rw [if_pos z0]
  cases hq : Yi s t with
  | true =>
   rw [hq] at hse
   rw [if_pos rfl]
   refine FCon.pLeaf (k := 0) (n := 0) (s := nS) ?_
   rw [xb, xb] at hf
   rw [xb, xb]
   refine FI PM Tryz.func245 Tryz.ntmps245 [] rfl rfl ?_
   (have hWf := w3 @xe @xd @f0; repeat' (first | refine zS ?_ | refine zI ?_ ?_ | refine zK (ht) ?_ | refine zK (hse) ?_ | refine zH hf ?_ | exact zF0 | refine zD fun hb => ?_ | exact zC | refine zT ?_ | fail))
   all_goals rfl
  | false =>
   rw [hq] at hse
   rw [if_neg (by decide)]
   refine FCon.pLeaf (k := 0) (n := 0) (s := nS) ?_
   show FCon _ _ _ (fun x o => _ /\ o = [.opt (rdD T e (zm T e s (wW t))), .un])
   generalize zm T e s (wW t) = s2 at *
   rw [xb, xb] at hd
   rw [xb, xb]
   refine FI PM Tryz.func245 Tryz.ntmps245 [] rfl rfl ?_
   (have hWf := w3 @xe @xd @f0; repeat' (first | refine zS ?_ | refine zI ?_ ?_ | refine zK (ht) ?_ | refine zK (hse) ?_ | refine zK (hpb) ?_ | refine zH hd ?_ | exact zF0 | refine zD fun hb => ?_ | exact zC | refine zT ?_ | fail))
   all_goals rfl
 ·have f0 := knF z0
  rw [if_neg z0]
  refine FCon.pLeaf (k := 0) (n := 0) (s := nS) ?_
  rw [xb]
  refine FI PM Tryz.func245 Tryz.ntmps245 [] rfl rfl ?_
  (have hWf := w1 @f0; repeat' (first | refine zS ?_ | refine zI ?_ ?_ | exact zF0 | refine zD fun hb => ?_ | exact zC | refine zT ?_ | fail))
  all_goals rfl
theorem c_l03Pat (hT : T.length <= 10000) (hTn : ∀ t ∈ T, -4611686018427387904 <= t.n /\ t.n <= 4611686018427387904) : ∀ k : Nat, k <= 101 -> CPat T e (patF T e k) (101 - k) := fun k => by
 induction k with
 | zero => intro _; exact Qx hT
 | succ k ih =>
  intro hk
  have := VE (R := patF T e k) hT hTn (101 - ((k + 1 : Nat) : Int)) (by omega) (by omega) (by rw [show (101 : Int) - ((k + 1 : Nat) : Int) + 1 = 101 - (k : Int) by omega]; exact ih (by omega)) (pat_b k)
  exact this
end
end Go.Proofs.YtgcdbmcoendcdaaGreat
