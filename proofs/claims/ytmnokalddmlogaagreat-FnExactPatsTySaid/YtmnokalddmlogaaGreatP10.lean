/- Parts of the proof, laid together: HConOf, InfM, InfP, HUniO, HPg, NilT, HInfI, HInfJ, HInfK, HInfL, InfQ, InfC, HCan. -/
import Derived.Deep.LoopGhost
import Derived.Deep.RegionLaw
import Derived.Deep.RegionWith
import Derived.Deep.Slices
import Derived.Laws.AppendOwn
import Derived.Laws.CopyRow
import Derived.Laws.Cover3
import Derived.Laws.EntriesVeiled
import Derived.Laws.Externs
import Derived.Laws.IdiomStrings
import Derived.Laws.StructEq
import Derived.Lib.AppendStr
import Derived.Lib.AppendZeros
import Derived.Lib.AppendZerosOnto
import Derived.Lib.Hide
import Derived.Lib.Overlaps
import Derived.ProofKit
import Derived.Test.YtmnokalddmlogaaGreatProg
import Derived.WalkKit
import Derived.Test.YtmnokalddmlogaaGreatP9
set_option linter.unusedSimpArgs false
set_option linter.unusedVariables false
set_option maxRecDepth 100000
set_option maxHeartbeats 8000000
namespace Go.Proofs.YtmnokalddmlogaaGreat
section
open Go.RowKit
def parV (n : Nat) : List TyI := (List.range n).map fun v => ⟨(v : Nat), ⟨#[]⟩, 0⟩
def ownT (t : MType) : List TyI := ⟨0, t.name, t.params⟩ :: parV t.params.toNat
def ym : List TyI := [⟨0, ⟨#[108, 105, 115, 116]⟩, 1⟩, ⟨0, ⟨#[]⟩, 0⟩]
def wV : List TyI := [⟨0, ⟨#[42]⟩, 2⟩, ⟨0, ⟨#[]⟩, 0⟩]
def vP : List TyI := [⟨0, ⟨#[98, 111, 111, 108]⟩, 0⟩]
def yd (ts : List MType) (s : ByteArray) : Option (MType × MCon) := (ts.flatMap fun t => t.cons.map fun c => (t, c)).find? fun q => q.2.name.toList == s.toList
def argT (c : MCon) : List TyI := if c.has = true then c.arg else []
def yi (ts : List MType) (s : ByteArray) : Option (List TyI × List TyI × Int) :=
 if s.toList = [116, 114, 117, 101] \/ s.toList = [102, 97, 108, 115, 101] then some (vP, [], 0)
 else if s.toList = [91, 93] then some (ym, [], 1)
 else if s.toList = [58, 58] then some (ym, wV ++ ym, 1)
 else (yd ts s).map fun q => (ownT q.1, argT q.2, q.1.params)
def XP (l : List TyI) : D := if l = [] then .nil else .sl 3 (l.map TyI.enc)
def conD : Option (List TyI × List TyI × Int) -> D
 | none => .tup [.nil, .nil, .s (.int .i64 0), .s (.bool false)]
 | some (o, a, n) => .tup [.sl 3 (o.map TyI.enc), XP a, .s (.int .i64 n), .s (.bool true)]
theorem lt_t : (⟨#[116, 114, 117, 101]⟩ : ByteArray).toList = [116, 114, 117, 101] := by rw [ByteArray.toList_eq]
theorem lf_t : (⟨#[102, 97, 108, 115, 101]⟩ : ByteArray).toList = [102, 97, 108, 115, 101] := by rw [ByteArray.toList_eq]
theorem Y5 : (⟨#[91, 93]⟩ : ByteArray).toList = [91, 93] := by rw [ByteArray.toList_eq]
theorem Y6 : (⟨#[58, 58]⟩ : ByteArray).toList = [58, 58] := by rw [ByteArray.toList_eq]
theorem ZE (s : ByteArray) : FCon Tryz.prog 98 [.s (.string s)] (fun r _ => r = .osl 143 3 ([(⟨0, s, 0⟩ : TyI)].map TyI.own)) := by
 refine FI PM Tryz.func98 Tryz.ntmps98 [] rfl rfl ?_
 (have hWf := f0; repeat' (first | refine zS ?_ | refine zI ?_ ?_ | exact zF0 | refine zD fun hb => ?_ | exact zC | refine zT ?_ | fail))
 all_goals rfl
theorem c_conOfB (ts : List MType) (s : ByteArray) (h : s.toList = [116, 114, 117, 101] \/ s.toList = [102, 97, 108, 115, 101] \/ s.toList = [91, 93] \/ s.toList = [58, 58]) : FCon Tryz.prog 148 [.sl 3 (ts.map MType.enc), .s (.string s)] (fun r _ => frA r = conD (yi ts s)) := by
 have hs := ZE ⟨#[98, 111, 111, 108]⟩
 have hc : FCon Tryz.prog 100 [.sl 1 [[.sl 3 [[.s (.int .i64 0), .s (.string ⟨#[42]⟩), .s (.int .i64 2)], [.s (.int .i64 0), .s (.string ⟨#[]⟩), .s (.int .i64 0)]]], [.sl 3 [[.s (.int .i64 0), .s (.string ⟨#[108, 105, 115, 116]⟩), .s (.int .i64 1)], [.s (.int .i64 0), .s (.string ⟨#[]⟩), .s (.int .i64 0)]]]]] (fun r _ => r = .osl 143 3 ([[.s (.int .i64 0), .s (.string ⟨#[42]⟩), .s (.int .i64 2)], [.s (.int .i64 0), .s (.string ⟨#[]⟩), .s (.int .i64 0)]] ++ [[.s (.int .i64 0), .s (.string ⟨#[108, 105, 115, 116]⟩), .s (.int .i64 1)], [.s (.int .i64 0), .s (.string ⟨#[]⟩), .s (.int .i64 0)]])) := VI [wV, ym] (by decide) (by decide)
 have cs : ∃ b1 b2 b3 b4 : Bool, (s.toList == [116, 114, 117, 101]) = b1 /\ (s.toList == [102, 97, 108, 115, 101]) = b2 /\ (s.toList == [91, 93]) = b3 /\ (s.toList == [58, 58]) = b4 /\ ((b1 = true /\ yi ts s = some (vP, [], 0)) \/ (b1 = false /\ b2 = true /\ yi ts s = some (vP, [], 0)) \/ (b1 = false /\ b2 = false /\ b3 = true /\ yi ts s = some (ym, [], 1)) \/ (b1 = false /\ b2 = false /\ b3 = false /\ b4 = true /\ yi ts s = some (ym, wV ++ ym, 1))) := by
  refine ⟨_, _, _, _, rfl, rfl, rfl, rfl, ?_⟩
  rcases h with h | h | h | h <;> unfold yi <;> rw [h]
  ·exact .inl ⟨by decide, by simp⟩
  ·exact .inr (.inl ⟨by decide, by decide, by simp⟩)
  ·exact .inr (.inr (.inl ⟨by decide, by decide, by decide, by simp⟩))
  ·exact .inr (.inr (.inr ⟨by decide, by decide, by decide, by decide, by simp⟩))
 obtain ⟨b1, b2, b3, b4, e1, e2, e3, e4, ⟨rfl, hm⟩ | ⟨rfl, rfl, hm⟩ | ⟨rfl, rfl, rfl, hm⟩ | ⟨rfl, rfl, rfl, rfl, hm⟩⟩ := cs
 all_goals
  rw [hm]
  clear h hm
  refine FI PM Tryz.func148 Tryz.ntmps148 [(24, 5, [], [], (lin [] [0, 1, 2, 3, 4])), (25, 8, [], [], (lin [] [0, 1, 2, 3, 4, 5, 6, 7]))] rfl rfl ?_
  iterate 2 (refine xj ?_; simp only [go_sem, simprocAttr]; (have hWf := f0; repeat' (first | refine zY ?_ | refine zI ?_ ?_ | exact zF1 | refine zD fun hb => ?_ | exact zC | refine zT ?_ | fail)))
  refine yS 17 (.arr 143 3 [[.s (.int .i64 0), .s (.string ⟨#[108, 105, 115, 116]⟩), .s (.int .i64 1)], [.s (.int .i64 0), .s (.string ⟨#[]⟩), .s (.int .i64 0)]]) (by simp only [go_sem, simprocAttr]) rfl ?_
  (have hWf := w8 @e1 @e2 @e3 @e4 @lt_t @lf_t @Y5 @Y6; repeat' (first | refine zS ?_ | refine zI ?_ ?_ | refine zK hs ?_ | refine zK hc ?_ | exact zF0 | refine zD fun hb => ?_ | exact zC | refine zT ?_ | fail))
  all_goals first | rfl | exact xD TyI.pure _ _ (wV ++ ym)
theorem Yt (ts : List MType) (s : ByteArray) (k : Nat) (hk : k < ts.length) (h : yd (ts.take k) s = none) (hn : ∀ c ∈ ts[k].cons, (c.name.toList == s.toList) = false) : yd (ts.take (k + 1)) s = none := by
 unfold yd at *
 rw [List.take_succ_eq_append_getElem hk, List.flatMap_append, List.find?_append, h]
 simp only [List.flatMap_cons, List.flatMap_nil, List.append_nil, Option.none_or]
 rw [List.find?_eq_none]
 intro q hq
 obtain ⟨c, hc, rfl⟩ := List.mem_map.1 hq
 simp [hn c hc]
theorem Zs (ts : List MType) (s : ByteArray) (k : Nat) (hk : k < ts.length) (h : yd (ts.take k) s = none) (j : Nat) (hj : j < ts[k].cons.length) (hn : ∀ c ∈ ts[k].cons.take j, (c.name.toList == s.toList) = false) (he : (ts[k].cons[j].name.toList == s.toList) = true) : yd ts s = some (ts[k], ts[k].cons[j]) := by
 unfold yd at *
 have e1 : ts = ts.take k ++ ts[k] :: ts.drop (k + 1) := by rw [<- List.drop_eq_getElem_cons hk, List.take_append_drop]
 have e2 : ts[k].cons = ts[k].cons.take j ++ ts[k].cons[j] :: ts[k].cons.drop (j + 1) := by rw [<- List.drop_eq_getElem_cons hj, List.take_append_drop]
 have e3 : ∀ (t : MType) (a : List MCon) (c : MCon) (b : List MCon), t.cons = a ++ c :: b -> (∀ x ∈ a, (x.name.toList == s.toList) = false) -> (c.name.toList == s.toList) = true -> (t.cons.map fun c => (t, c)).find? (fun q => q.2.name.toList == s.toList) = some (t, c) := by
  intro t a c b e q1 q2
  rw [e, List.map_append, List.find?_append, List.find?_eq_none.2 (by intro q hq; obtain ⟨x, hx, rfl⟩ := List.mem_map.1 hq; simp [q1 x hx]), Option.none_or, List.map_cons, List.find?_cons, q2]
 have e4 := e3 ts[k] _ _ _ e2 hn he
 have e5 : ts.flatMap (fun t => t.cons.map fun c => (t, c)) = (ts.take k).flatMap (fun t => t.cons.map fun c => (t, c)) ++ ((ts[k].cons.map fun c => (ts[k], c)) ++ (ts.drop (k + 1)).flatMap (fun t => t.cons.map fun c => (t, c))) := by
  conv => lhs; rw [e1]
  rw [List.flatMap_append, List.flatMap_cons]
 rw [e5, List.find?_append, h, Option.none_or, List.find?_append, e4]; rfl
theorem YI (v : Nat) : parV (v + 1) = parV v ++ [⟨(v : Nat), ⟨#[]⟩, 0⟩] := by unfold parV; rw [List.range_succ, List.map_append]; rfl
theorem Qo (v : Nat) : (parV v).length = v := by unfold parV; rw [List.length_map, List.length_range]
theorem ZY (t : MType) (v : Nat) (hl : (parV v).length = v) : List.take (1 + v) (TyI.own ⟨0, t.name, t.params⟩ :: (parV v).map TyI.own) = TyI.own ⟨0, t.name, t.params⟩ :: (parV v).map TyI.own :=
 List.take_of_length_le (by simp only [List.length_cons, List.length_map, hl]; omega)
theorem own_frz (t : MType) (v : Nat) (hv : t.params = v) : xN (TyI.own ⟨0, t.name, t.params⟩ :: (parV v).map TyI.own) = (ownT t).map TyI.enc := by
 have e : t.params.toNat = v := by omega
 unfold ownT
 rw [e]
 exact TyI.frzS (⟨0, t.name, t.params⟩ :: parV v)
theorem ZR {l : List TyI} (h : l ≠ []) : XP l = .sl 3 (l.map TyI.enc) := by unfold XP; rw [if_neg h]
theorem c_conOfT (ts : List MType) (s : ByteArray) (h : ¬ (s.toList = [116, 114, 117, 101] \/ s.toList = [102, 97, 108, 115, 101] \/ s.toList = [91, 93] \/ s.toList = [58, 58])) (hl : ts.length <= 1048576) (hcl : ∀ t ∈ ts, t.cons.length <= 1048576) (hpar : ∀ t ∈ ts, 0 <= t.params /\ t.params <= 2) (hne : ∀ t ∈ ts, ∀ c ∈ t.cons, c.has = true -> c.arg ≠ []) : FCon Tryz.prog 148 [.sl 3 (ts.map MType.enc), .s (.string s)] (fun r _ => frA r = conD (yi ts s)) := by
 simp only [not_or] at h
 have e1 : (s.toList == [116, 114, 117, 101]) = false := by simpa using h.1
 have e2 : (s.toList == [102, 97, 108, 115, 101]) = false := by simpa using h.2.1
 have e3 : (s.toList == [91, 93]) = false := by simpa using h.2.2.1
 have e4 : (s.toList == [58, 58]) = false := by simpa using h.2.2.2
 have hm : yi ts s = (yd ts s).map fun q => (ownT q.1, argT q.2, q.1.params) := by
  unfold yi
  rw [if_neg (by simp [h.1, h.2.1]), if_neg h.2.2.1, if_neg h.2.2.2]
 rw [hm]
 clear h hm
 refine FI PM Tryz.func148 Tryz.ntmps148 [(24, 5, [], [], (lin [] [0, 1, 2, 3, 4])), (25, 8, [], [], (lin [] [0, 1, 2, 3, 4, 5, 6, 7]))] rfl rfl ?_
 (have hWf := w8 @e1 @e2 @e3 @e4 @lt_t @lf_t @Y5 @Y6; repeat' (first | refine zS ?_ | refine zI ?_ ?_ | exact zF0 | refine zD fun hb => ?_ | exact zC | refine zT ?_ | fail))
 refine xd (fun n σ => ∃ k : Nat, k <= ts.length /\ n = ts.length - k /\ yd (ts.take k) s = none /\ σ.t 1 = .s (.string s) /\ σ.t 35 = .sl 3 (ts.map MType.enc) /\ σ.t 36 = .s (.int .i64 ts.length) /\ σ.t 37 = .s (.int .i64 k)) ts.length ⟨0, by omega, by omega, rfl, ?_⟩ ?_
 ·simp only [go_sem, simprocAttr, Int.natCast_zero]
  done
 ·rintro n σ ⟨k, hk, rfl, hno, h1, h35, h36, h37⟩ K' hK
  by_cases hlt : k < ts.length
  ·have htm := List.getElem_mem hlt
   have hx := xb MType.enc ts k hlt
   have hcl' := hcl _ htm
   have hp' := hpar _ htm
   have hne' := hne _ htm
   have hstep := Yt ts s k hlt hno
   have hhit := Zs ts s k hlt hno
   clear hno hcl hpar hne
   generalize ht : ts[k] = t at hx hcl' hp' hne' hstep hhit
   have hte := MType.enc_eq t
   (have hWf := w6 @h1 @h35 @h36 @h37 @hx @hte; repeat' (first | refine zS ?_ | refine zI ?_ ?_ | exact zF0 | refine zD fun hb => ?_ | exact zC | refine zT ?_ | fail))
   refine xd (fun n σ => ∃ j : Nat, j <= t.cons.length /\ n = t.cons.length - j /\ (∀ c ∈ t.cons.take j, (c.name.toList == s.toList) = false) /\ σ.t 1 = .s (.string s) /\ σ.t 35 = .sl 3 (ts.map MType.enc) /\ σ.t 36 = .s (.int .i64 ts.length) /\ σ.t 37 = .s (.int .i64 k) /\ σ.t 10 = .bx 10 0 /\ σ.b 10 = some (.box [.s (.string t.name), .s (.int .i64 t.params), .sl 3 (t.cons.map MCon.enc)]) /\ σ.t 42 = .sl 3 (t.cons.map MCon.enc) /\ σ.t 43 = .s (.int .i64 t.cons.length) /\ σ.t 44 = .s (.int .i64 j)) t.cons.length ⟨0, by omega, by omega, by simp, ?_⟩ ?_
   ·simp only [go_sem, simprocAttr, h1, h35, h36, h37, Int.natCast_zero]
    done
   ·rintro n σ ⟨j, hj, rfl, hnj, g1, g35, g36, g37, g10, b10, g42, g43, g44⟩ K'' hK''
    by_cases hlj : j < t.cons.length
    ·have hy := xb MCon.enc t.cons j hlj
     have hhit' := hhit j hlj hnj
     have hne2 := hne' _ (List.getElem_mem hlj)
     have htk := List.take_succ_eq_append_getElem hlj
     generalize hc : t.cons[j] = c at hy hhit' hne2 htk
     have hce := MCon.enc_eq c
     cases e5 : (c.name.toList == s.toList) with
     | false =>
      (have hWf := w10 @g1 @g35 @g36 @g37 @g10 @b10 @g42 @g43 @g44 (ai @hy <| ai @hce <| @e5); repeat' (first | refine zS ?_ | refine zI ?_ ?_ | exact zF0 | refine zD fun hb => ?_ | exact zC | refine zT ?_ | fail))
      refine hK'' (t.cons.length - (j + 1)) _ (by omega) ⟨j + 1, by omega, rfl, (by
       rw [htk]; intro x hx2
       rcases List.mem_append.1 hx2 with q | q
       ·exact hnj x q
       ·rw [List.mem_singleton.1 q]; exact e5), ?_⟩
      simp only [go_sem, simprocAttr, g1, g35, g36, g37, g10, b10, g42, g43, g44, Int.natCast_succ]
      done
     | true =>
      have hf := hhit' e5
      rw [hf]
      clear hf hhit hhit' hstep hK hK''
      obtain ⟨pn, hpn⟩ : ∃ pn : Nat, t.params = pn := ⟨t.params.toNat, by omega⟩
      (have hWf := w10 @g1 @g35 @g36 @g37 @g10 @b10 @g42 @g43 @g44 (ai @hy <| ai @hce <| @e5); repeat' (first | refine zS ?_ | refine zI ?_ ?_ | exact zF0 | refine zD fun hb => ?_ | exact zC | refine zT ?_ | fail))
      refine xd (fun n σ => ∃ v : Nat, v <= pn /\ n = pn - v /\ σ.t 13 = .bs 57 3 (1 + v) /\ σ.b 57 = some (.arr 143 3 ((⟨0, t.name, t.params⟩ :: parV v).map TyI.own)) /\ σ.t 59 = .s (.int .i64 pn) /\ σ.t 60 = .s (.int .i64 v) /\ σ.t 10 = .bx 10 0 /\ σ.b 10 = some (.box [.s (.string t.name), .s (.int .i64 t.params), .sl 3 (t.cons.map MCon.enc)]) /\ σ.t 12 = .bx 12 0 /\ σ.b 12 = some (.box [.s (.string c.name), .s (.bool c.has), .sl 3 (c.arg.map TyI.enc)])) pn ⟨0, by omega, by omega, ?_⟩ ?_
      ·simp only [go_sem, simprocAttr, g1, g10, b10, hpn, Int.natCast_zero]
       rfl
      ·rintro n σ ⟨v, hv, rfl, i13, ib, i59, i60, i10, ib10, i12, ib12⟩ K3 hK3
       have hpl := Qo v
       by_cases hlv : v < pn
       ·(have hWf := w9 @i13 @ib @i59 @i60 @i10 @ib10 @i12 @ib12 @hpl; repeat' (first | refine zS ?_ | refine zI ?_ ?_ | exact zF0 | refine zD fun hb => ?_ | exact zC | refine zT ?_ | fail))
        refine hK3 (pn - (v + 1)) _ (by omega) ⟨v + 1, by omega, rfl, ?_⟩
        simp only [go_sem, simprocAttr, i13, ib, i59, i60, i10, ib10, i12, ib12, Int.natCast_succ, YI, List.map_append, List.map_cons]
        exact ⟨by rw [Nat.add_assoc], by rw [ZY t v hpl]; rfl⟩
       ·obtain rfl : v = pn := by omega
        cases eh : c.has with
        | true =>
         rw [eh] at ib12
         (have hWf := w9 @i13 @ib @i59 @i60 @i10 @ib10 @i12 @ib12 @hpl; repeat' (first | refine zS ?_ | refine zI ?_ ?_ | exact zF0 | refine zD fun hb => ?_ | exact zC | refine zT ?_ | fail))
         have ea : argT c = c.arg := by unfold argT; rw [if_pos eh]
         rw [ZY t v hpl, own_frz t v hpn]
         show _ = D.tup [.sl 3 ((ownT t).map TyI.enc), XP (argT c), .s (.int .i64 t.params), .s (.bool true)]
         rw [ea, ZR (hne2 eh)]
        | false =>
         rw [eh] at ib12
         (have hWf := w9 @i13 @ib @i59 @i60 @i10 @ib10 @i12 @ib12 @hpl; repeat' (first | refine zS ?_ | refine zI ?_ ?_ | exact zF0 | refine zD fun hb => ?_ | exact zC | refine zT ?_ | fail))
         have ea : argT c = [] := by unfold argT; rw [eh]; rfl
         rw [ZY t v hpl, own_frz t v hpn]
         show _ = D.tup [.sl 3 ((ownT t).map TyI.enc), XP (argT c), .s (.int .i64 t.params), .s (.bool true)]
         rw [ea]; rfl
    ·obtain rfl : j = t.cons.length := by omega
     rw [List.take_length] at hnj
     (have hWf := w9 @g1 @g35 @g36 @g37 @g10 @b10 @g42 @g43 @g44; repeat' (first | refine zS ?_ | refine zI ?_ ?_ | exact zF0 | refine zD fun hb => ?_ | exact zC | refine zT ?_ | fail))
     refine hK (ts.length - (k + 1)) _ (by omega) ⟨k + 1, by omega, rfl, hstep hnj, ?_⟩
     simp only [go_sem, simprocAttr, g1, g35, g36, g37, Int.natCast_succ]
     done
  ·obtain rfl : k = ts.length := by omega
   rw [List.take_length] at hno
   rw [hno]
   (have hWf := w4 @h1 @h35 @h36 @h37; repeat' (first | refine zS ?_ | refine zI ?_ ?_ | exact zF0 | refine zD fun hb => ?_ | exact zC | refine zT ?_ | fail))
   all_goals rfl
theorem c_conOf (ts : List MType) (s : ByteArray) (hl : ts.length <= 1048576) (hcl : ∀ t ∈ ts, t.cons.length <= 1048576) (hpar : ∀ t ∈ ts, 0 <= t.params /\ t.params <= 2) (hne : ∀ t ∈ ts, ∀ c ∈ t.cons, c.has = true -> c.arg ≠ []) : FCon Tryz.prog 148 [.sl 3 (ts.map MType.enc), .s (.string s)] (fun r _ => r = conD (yi ts s)) := by
 refine FCon.ice ?_
 by_cases h : s.toList = [116, 114, 117, 101] \/ s.toList = [102, 97, 108, 115, 101] \/ s.toList = [91, 93] \/ s.toList = [58, 58]
 ·exact c_conOfB ts s h
 ·exact c_conOfT ts s h hl hcl hpar hne
end
section
open Go.RowKit Arb
structure IS where
 l : List SubM
 nx : Nat
 code : Int
 at_ : Int
structure Bnd where
 name : ByteArray
 ty : List TyI
 gen : List Int
def fvI (n : Nat) : TyI := ⟨(n : Nat), ⟨#[]⟩, 0⟩
def nmT (s : ByteArray) : List TyI := [⟨0, s, 0⟩]
def intT : List TyI := nmT ⟨#[105, 110, 116]⟩
def unitT : List TyI := nmT ⟨#[117, 110, 105, 116]⟩
def zp : TyI := ⟨0, ⟨#[42]⟩, 2⟩
def incM (s : IS) (k : Nat) : IS := ⟨s.l, s.nx + k, s.code, s.at_⟩
def yx (s : IS) (c a : Int) : IS := if s.code = 0 then ⟨s.l, s.nx, c, a⟩ else s
open Classical in
noncomputable def uniR (l : List SubM) (x y : List TyI) : List SubM × Int := if h : ∃ r, ∃ n, UOk n l x y /\ uniM n l x y = some r then Classical.choose h else (l, 2)
theorem uniR_at {l : List SubM} {x y : List TyI} (h : ∃ r, ∃ n, UOk n l x y /\ uniM n l x y = some r) : ∃ n, UOk n l x y /\ uniM n l x y = some (uniR l x y) := by
 unfold uniR
 rw [dif_pos h]
 exact Classical.choose_spec h
noncomputable def xy (s : IS) (x y : List TyI) (a : Int) : IS :=
 if s.code ≠ 0 then s
 else if 200 < (putX s.l x).length \/ 200 < (putX s.l y).length then ⟨s.l, s.nx, 26, a⟩
 else if (uniR s.l x y).2 = 0 then ⟨(uniR s.l x y).1, s.nx, s.code, s.at_⟩
 else ⟨(uniR s.l x y).1, s.nx, (uniR s.l x y).2 + 22, a⟩
noncomputable def yr (s : IS) (x y : List TyI) (a : Int) : IS :=
 if s.code ≠ 0 then s
 else if 200 < (putX s.l x).length \/ 200 < (putX s.l y).length then ⟨s.l, s.nx, 26, a⟩
 else if (uniR s.l x y).2 = 0 then ⟨(uniR s.l x y).1, s.nx, s.code, s.at_⟩
 else ⟨s.l, s.nx, (uniR s.l x y).2 + 22, a⟩
def xi (k n : Nat) : List SubM := (List.range k).map fun v => ⟨(v : Nat), [fvI (n + v)]⟩
theorem Xj (k n : Nat) : xi (k + 1) n = xi k n ++ [⟨(k : Nat), [fvI (n + k)]⟩] := by unfold xi; rw [List.range_succ, List.map_append]; rfl
theorem XJ (k n : Nat) : (xi k n).length = k := by unfold xi; rw [List.length_map, List.length_range]
structure ConR where
 own : List TyI
 arg : List TyI
 ok : Bool
def conI (ts : List MType) (s : IS) (name : ByteArray) (has : Bool) (a : Int) : ConR × IS :=
 match yi ts name with
 | none => (⟨[], [], false⟩, yx s 22 a)
 | some (own, arg, many) => if has ≠ decide (0 < arg.length) then (⟨[], [], false⟩, yx s 23 a) else (⟨putX (xi many.toNat s.nx) own, putX (xi many.toNat s.nx) arg, true⟩, incM s many.toNat)
def zL (ts : List MType) (s : IS) (name : ByteArray) : Option ((List TyI × List TyI × Bool) × IS) :=
 if name.toList = [116, 114, 117, 101] \/ name.toList = [102, 97, 108, 115, 101] then some ((vP, [], false), s)
 else if name.toList = [91, 93] \/ name.toList = [58, 58] then some ((putX (xi 1 s.nx) ym, putX (xi 1 s.nx) (wV ++ ym), name.toList == [58, 58]), incM s 1)
 else (yd ts name).map fun q => ((putX (xi q.1.params.toNat s.nx) (ownT q.1), putX (xi q.1.params.toNat s.nx) q.2.arg, q.2.has), incM s q.1.params.toNat)
def xk (ts : List MType) (s : IS) (name : ByteArray) (one : Bool) (a : Int) : (List TyI × List TyI) × IS :=
 match zL ts s name with
 | none => (([], []), yx s 22 a)
 | some ((t, arg, has), s1) => ((t, arg), if has ≠ one then yx s1 23 a else s1)
mutual
noncomputable def patI (ts : List MType) (at_ : Int) : PT -> List Bnd -> IS -> List TyI × List Bnd × IS
 | .mk a l, e, s =>
  if a.kind = 3 then (intT, e, s)
  else if a.kind = 6 then (unitT, e, s)
  else if a.kind = 1 then ([fvI s.nx], e, incM s 1)
  else if a.kind = 2 then ([fvI s.nx], ⟨a.s, [fvI s.nx], []⟩ :: e, incM s 1)
  else if a.kind = 5 then (zp :: (vh ts at_ l e s).1.flatten, (vh ts at_ l e s).2)
  else if (conI ts s a.s (decide (0 < l.length)) at_).1.ok = false \/ l.length = 0 then ((conI ts s a.s (decide (0 < l.length)) at_).1.own, e, (conI ts s a.s (decide (0 < l.length)) at_).2)
  else ((conI ts s a.s (decide (0 < l.length)) at_).1.own, (vh ts at_ l e (conI ts s a.s (decide (0 < l.length)) at_).2).2.1, xy (vh ts at_ l e (conI ts s a.s (decide (0 < l.length)) at_).2).2.2 (vh ts at_ l e (conI ts s a.s (decide (0 < l.length)) at_).2).1.flatten (conI ts s a.s (decide (0 < l.length)) at_).1.arg at_)
noncomputable def vh (ts : List MType) (at_ : Int) : List PT -> List Bnd -> IS -> List (List TyI) × List Bnd × IS
 | [], e, s => ([], e, s)
 | t :: l, e, s => ((patI ts at_ t e s).1 :: (vh ts at_ l (patI ts at_ t e s).2.1 (patI ts at_ t e s).2.2).1, (vh ts at_ l (patI ts at_ t e s).2.1 (patI ts at_ t e s).2.2).2)
end
mutual
noncomputable def patS (ts : List MType) (at_ : Int) : PT -> List Bnd -> IS -> List TyI × List Bnd × IS
 | .mk a l, e, s =>
  if s.code ≠ 0 then ([], e, s)
  else if a.kind = 3 then (intT, e, s)
  else if a.kind = 6 then (unitT, e, s)
  else if a.kind = 1 then ([fvI s.nx], e, incM s 1)
  else if a.kind = 2 then ([fvI s.nx], ⟨a.s, [fvI s.nx], []⟩ :: e, incM s 1)
  else if a.kind = 5 then (zp :: (vi ts at_ l e s).1.flatten, (vi ts at_ l e s).2)
  else if (xk ts s a.s (l.length == 1) at_).2.code ≠ 0 \/ l.length = 0 then ((xk ts s a.s (l.length == 1) at_).1.1, e, (xk ts s a.s (l.length == 1) at_).2)
  else ((xk ts s a.s (l.length == 1) at_).1.1, (vi ts at_ l e (xk ts s a.s (l.length == 1) at_).2).2.1, yr (vi ts at_ l e (xk ts s a.s (l.length == 1) at_).2).2.2 (vi ts at_ l e (xk ts s a.s (l.length == 1) at_).2).1.flatten (xk ts s a.s (l.length == 1) at_).1.2 at_)
noncomputable def vi (ts : List MType) (at_ : Int) : List PT -> List Bnd -> IS -> List (List TyI) × List Bnd × IS
 | [], e, s => ([], e, s)
 | t :: l, e, s => ((patS ts at_ t e s).1 :: (vi ts at_ l (patS ts at_ t e s).2.1 (patS ts at_ t e s).2.2).1, (vi ts at_ l (patS ts at_ t e s).2.1 (patS ts at_ t e s).2.2).2)
end
section
variable {ts : List MType} {at_ : Int} {a : PI} {l : List PT} {e : List Bnd} {s : IS} {x y : PT}
theorem Qq (k : a.kind = 3) : patI ts at_ (.mk a l) e s = (intT, e, s) := by rw [patI, if_pos k]
theorem U6 (k : a.kind = 6) : patI ts at_ (.mk a l) e s = (unitT, e, s) := by rw [patI, if_neg (by omega), if_pos k]
theorem U7 (k : a.kind = 1) : patI ts at_ (.mk a l) e s = ([fvI s.nx], e, incM s 1) := by rw [patI, if_neg (by omega), if_neg (by omega), if_pos k]
theorem Qr (k : a.kind = 2) : patI ts at_ (.mk a l) e s = ([fvI s.nx], ⟨a.s, [fvI s.nx], []⟩ :: e, incM s 1) := by rw [patI, if_neg (by omega), if_neg (by omega), if_neg (by omega), if_pos k]
theorem U5 (k : a.kind = 5) {t1 t2 : List TyI} {e1 e2 : List Bnd} {s1 s2 : IS} (h1 : patI ts at_ x e s = (t1, e1, s1)) (h2 : patI ts at_ y e1 s1 = (t2, e2, s2)) : patI ts at_ (.mk a [x, y]) e s = (zp :: (t1 ++ t2), e2, s2) := by
 rw [patI, if_neg (by omega), if_neg (by omega), if_neg (by omega), if_neg (by omega), if_pos k]
 simp only [vh, h1, h2, List.flatten_cons, List.flatten_nil, List.append_nil]
theorem Qp (k : a.kind = 4) {c : ConR} {s1 : IS} (h : conI ts s a.s (decide (0 < l.length)) at_ = (c, s1)) (hc : c.ok = false) : patI ts at_ (.mk a l) e s = (c.own, e, s1) := by
 rw [patI, if_neg (by omega), if_neg (by omega), if_neg (by omega), if_neg (by omega), if_neg (by omega), h, if_pos (.inl hc)]
theorem U3 (k : a.kind = 4) {c : ConR} {s1 : IS} (h : conI ts s a.s false at_ = (c, s1)) : patI ts at_ (.mk a []) e s = (c.own, e, s1) := by
 rw [patI, if_neg (by omega), if_neg (by omega), if_neg (by omega), if_neg (by omega), if_neg (by omega), if_pos (.inr rfl)]
 simp only [List.length_nil, Nat.lt_irrefl, decide_false, h]
theorem U4 (k : a.kind = 4) {c : ConR} {s1 s2 : IS} {t : List TyI} {e2 : List Bnd} (h : conI ts s a.s true at_ = (c, s1)) (hc : c.ok = true) (h1 : patI ts at_ x e s1 = (t, e2, s2)) : patI ts at_ (.mk a [x]) e s = (c.own, e2, xy s2 t c.arg at_) := by
 have e0 : decide (0 < [x].length) = true := rfl
 rw [patI, if_neg (by omega), if_neg (by omega), if_neg (by omega), if_neg (by omega), if_neg (by omega), e0, h, if_neg (by simp [hc])]
 simp only [vh, h1, List.flatten_cons, List.flatten_nil, List.append_nil]
theorem yp (h : s.code ≠ 0) : patS ts at_ x e s = ([], e, s) := by obtain ⟨a, l⟩ := x; rw [patS, if_pos h]
theorem XT (h : s.code = 0) (k : a.kind = 3) : patS ts at_ (.mk a l) e s = (intT, e, s) := by rw [patS, if_neg (by omega), if_pos k]
theorem v4 (h : s.code = 0) (k : a.kind = 6) : patS ts at_ (.mk a l) e s = (unitT, e, s) := by rw [patS, if_neg (by omega), if_neg (by omega), if_pos k]
theorem v5 (h : s.code = 0) (k : a.kind = 1) : patS ts at_ (.mk a l) e s = ([fvI s.nx], e, incM s 1) := by rw [patS, if_neg (by omega), if_neg (by omega), if_neg (by omega), if_pos k]
theorem XV (h : s.code = 0) (k : a.kind = 2) : patS ts at_ (.mk a l) e s = ([fvI s.nx], ⟨a.s, [fvI s.nx], []⟩ :: e, incM s 1) := by rw [patS, if_neg (by omega), if_neg (by omega), if_neg (by omega), if_neg (by omega), if_pos k]
theorem uL (h : s.code = 0) (k : a.kind = 5) {t1 t2 : List TyI} {e1 e2 : List Bnd} {s1 s2 : IS} (h1 : patS ts at_ x e s = (t1, e1, s1)) (h2 : patS ts at_ y e1 s1 = (t2, e2, s2)) : patS ts at_ (.mk a [x, y]) e s = (zp :: (t1 ++ t2), e2, s2) := by
 rw [patS, if_neg (by omega), if_neg (by omega), if_neg (by omega), if_neg (by omega), if_neg (by omega), if_pos k]
 simp only [vi, h1, h2, List.flatten_cons, List.flatten_nil, List.append_nil]
theorem vC (h : s.code = 0) (k : a.kind = 4) {c : List TyI × List TyI} {s1 : IS} (hl : xk ts s a.s (l.length == 1) at_ = (c, s1)) (hc : s1.code ≠ 0) : patS ts at_ (.mk a l) e s = (c.1, e, s1) := by
 rw [patS, if_neg (by omega), if_neg (by omega), if_neg (by omega), if_neg (by omega), if_neg (by omega), if_neg (by omega), hl, if_pos (.inl hc)]
theorem vY (h : s.code = 0) (k : a.kind = 4) {c : List TyI × List TyI} {s1 : IS} (hl : xk ts s a.s false at_ = (c, s1)) : patS ts at_ (.mk a []) e s = (c.1, e, s1) := by
 have e0 : (([] : List PT).length == 1) = false := by decide
 rw [patS, if_neg (by omega), if_neg (by omega), if_neg (by omega), if_neg (by omega), if_neg (by omega), if_neg (by omega), e0, hl, if_pos (.inr rfl)]
theorem vZ (h : s.code = 0) (k : a.kind = 4) {c : List TyI × List TyI} {s1 s2 : IS} {t : List TyI} {e2 : List Bnd} (hl : xk ts s a.s true at_ = (c, s1)) (hc : s1.code = 0) (h1 : patS ts at_ x e s1 = (t, e2, s2)) : patS ts at_ (.mk a [x]) e s = (c.1, e2, yr s2 t c.2 at_) := by
 have e0 : ([x].length == 1) = true := rfl
 rw [patS, if_neg (by omega), if_neg (by omega), if_neg (by omega), if_neg (by omega), if_neg (by omega), if_neg (by omega), e0, hl, if_neg (by simp [hc])]
 simp only [vi, h1, List.flatten_cons, List.flatten_nil, List.append_nil]
end
def Qn (n : Nat) (x : TyI) : Prop := (varB x = true -> 0 <= x.v /\ x.v < n) /\ (varB x = false -> xF x = true)
def rngV (n : Nat) : List Int := (List.range n).map fun k : Nat => (k : Int)
structure TyG (n : Nat) (t : List TyI) : Prop where
 wf : wfV t
 q : ∀ x ∈ t, Qn n x
structure GoodS (s : IS) : Prop where
 g : GoodL (Qn s.nx) s.l
 room : s.l.length + unb (rngV s.nx) s.l <= s.nx
def OkS (s : IS) : Prop := s.code = 0 -> GoodS s
theorem Qn.mono {n m : Nat} {x : TyI} (h : Qn n x) (hm : n <= m) : Qn m x := ⟨fun hb => by have := h.1 hb; omega, h.2⟩
theorem TyG.mono {n m : Nat} {t : List TyI} (h : TyG n t) (hm : n <= m) : TyG m t := ⟨h.wf, fun x hx => (h.q x hx).mono hm⟩
theorem GoodL.mono {Q R : TyI -> Prop} {l : List SubM} (h : GoodL Q l) (hq : ∀ x, Q x -> R x) : GoodL R l := ⟨h.rise, h.wf, h.out, h.len, fun s hs x hx => hq x (h.q s hs x hx), fun s hs => by obtain ⟨x, h1, h2⟩ := h.vq s hs; exact ⟨x, hq x h1, h2⟩⟩
theorem rngV_succ (n : Nat) : rngV (n + 1) = rngV n ++ [(n : Int)] := by unfold rngV; rw [List.range_succ, List.map_append]; rfl
theorem unb_rng (n k : Nat) (l : List SubM) : unb (rngV (n + k)) l <= unb (rngV n) l + k := by
 induction k with
 | zero => exact Nat.le_refl _
 | succ k ih =>
  rw [<- Nat.add_assoc, rngV_succ]
  unfold unb at ih ⊢
  rw [List.filter_append, List.length_append]
  have : (List.filter (fun v => (lk l v).isNone) [((n + k : Nat) : Int)]).length <= 1 := List.length_filter_le _ _
  omega
theorem GoodS.inc {s : IS} (h : GoodS s) (k : Nat) : GoodS (incM s k) := ⟨h.g.mono fun x hx => hx.mono (by show s.nx <= s.nx + k; omega), by
 have h1 := h.room
 have h2 := unb_rng s.nx k s.l
 show s.l.length + unb (rngV (s.nx + k)) s.l <= s.nx + k
 omega⟩
theorem OkS.inc {s : IS} (h : OkS s) (k : Nat) : OkS (incM s k) := fun hc => (h hc).inc k
theorem GoodS.len {s : IS} (h : GoodS s) : s.l.length <= s.nx := by have := h.room; omega
theorem Qn.zero {n : Nat} {x : TyI} (h : Qn n x) (hv : varB x = false) : x.v = 0 := by
 have := h.2 hv
 unfold varB at hv
 unfold xF at this
 rw [if_neg (by rw [hv]; simp)] at this
 simp only [Bool.and_eq_true, beq_iff_eq] at this
 exact this.1
theorem mem_rngV {n : Nat} {v : Int} : v ∈ rngV n ↔ 0 <= v /\ v < n := by
 unfold rngV
 rw [List.mem_map]
 constructor
 ·rintro ⟨k, hk, rfl⟩; have := List.mem_range.1 hk; omega
 ·rintro ⟨h1, h2⟩; exact ⟨v.toNat, List.mem_range.2 (by omega), by omega⟩
theorem YN : ∀ (n : Nat) (l : List SubM) (x y : List TyI) (r : List SubM × Int), uniM n l x y = some r -> 0 <= r.2 /\ r.2 <= 4
 | 0, _, _, _, _, h => by cases h
 | n + 1, l, x, y, r, h => by
  have bnd : ∀ v u, 0 <= (xv l v u).2 /\ (xv l v u).2 <= 4 := fun v u => by
   unfold xv
   split
   ·exact ⟨by dsimp only; omega, by dsimp only; omega⟩
   ·dsimp only; split <;> exact ⟨by omega, by omega⟩
  have fold : ∀ (X Y : List TyI) (m k : Nat) (l : List SubM) (r : List SubM × Int), y6 (uniM n) X Y m k l = some r -> 0 <= r.2 /\ r.2 <= 4 := by
   intro X Y m
   induction m with
   | zero => intro k l r h; rw [y6] at h; injection h with h; subst h; exact ⟨by dsimp only; omega, by dsimp only; omega⟩
   | succ m ih =>
    intro k l r h
    rw [y6] at h
    cases e : uniM n l (kid X k) (kid Y k) with
    | none => rw [e] at h; cases h
    | some r1 =>
     rw [e] at h
     dsimp only at h
     split at h
     ·exact ih _ _ _ h
     ·injection h with h; subst h; exact YN n _ _ _ _ e
  rw [uniM] at h
  split at h
  ·unfold Y1 at h
   repeat' split at h
   all_goals first
    | (injection h with h; subst h; first | exact bnd _ _ | exact ⟨by dsimp only; omega, by dsimp only; omega⟩)
    | exact fold _ _ _ _ _ _ h
    | fail
  ·cases h
theorem WG : ∀ (n : Nat) (l : List SubM) (x y : List TyI) (r : List SubM × Int), uniM n l x y = some r -> uniM (n + 1) l x y = some r
 | 0, _, _, _, _, h => by cases h
 | n + 1, l, x, y, r, h => by
  have fold : ∀ (X Y : List TyI) (m k : Nat) (l : List SubM) (r : List SubM × Int), y6 (uniM n) X Y m k l = some r -> y6 (uniM (n + 1)) X Y m k l = some r := by
   intro X Y m
   induction m with
   | zero => intro k l r h; exact h
   | succ m ih =>
    intro k l r h
    rw [y6] at h ⊢
    cases e : uniM n l (kid X k) (kid Y k) with
    | none => rw [e] at h; cases h
    | some r1 =>
     rw [e] at h
     rw [WG n _ _ _ _ e]
     dsimp only at h ⊢
     split
     ·rename_i q; rw [if_pos q] at h; exact ih _ _ _ h
     ·rename_i q; rw [if_neg q] at h; exact h
  rw [uniM] at h
  rw [uniM]
  split at h
  ·rename_i a b ea eb
   unfold Y1 at h ⊢
   split
   ·rename_i q; rw [if_pos q] at h; exact h
   ·rename_i q
    rw [if_neg q] at h
    split
    ·rename_i q2; rw [if_pos q2] at h; exact h
    ·rename_i q2
     rw [if_neg q2] at h
     split
     ·rename_i q3; rw [if_pos q3] at h; exact h
     ·rename_i q3; rw [if_neg q3] at h; exact fold _ _ _ _ _ _ h
  ·cases h
theorem Vk {n m : Nat} (hm : n <= m) (l : List SubM) (x y : List TyI) (r : List SubM × Int) (h : uniM n l x y = some r) : uniM m l x y = some r := by
 obtain ⟨k, rfl⟩ := Nat.le.dest hm
 clear hm
 induction k with
 | zero => exact h
 | succ k ih => exact WG _ _ _ _ _ ih
theorem uniR_hi (l : List SubM) (x y : List TyI) : 0 <= (uniR l x y).2 /\ (uniR l x y).2 <= 4 := by
 by_cases h : ∃ r, ∃ n, UOk n l x y /\ uniM n l x y = some r
 ·obtain ⟨n, -, e⟩ := uniR_at h
  exact YN _ _ _ _ _ e
 ·unfold uniR; rw [dif_neg h]; exact ⟨by dsimp only; omega, by dsimp only; omega⟩
theorem Xb {s : IS} (h : GoodS s) (hn : s.nx <= 3000000) {x y : List TyI} (hx : TyG s.nx x) (hy : TyG s.nx y) (lx : (putX s.l x).length <= 200) (ly : (putX s.l y).length <= 200) :
  ∃ n, UOk n s.l x y /\ uniM n s.l x y = some (uniR s.l x y) /\ 0 <= (uniR s.l x y).2 /\ ((uniR s.l x y).2 = 0 -> YS (Qn s.nx) (rngV s.nx) s.l x y (uniR s.l x y).1) := by
 have pos : ∀ t ∈ s.l, 0 < t.ty.length := fun t ht => (h.g.wf t ht).pos
 have bd : ∀ zs : List TyI, (putX s.l zs).length <= 200 -> Bd (Qn s.nx) s.l zs := fun zs hz l' _ hg => by
  have h0 := uB pos zs
  have h1 := zn (l := l') (B := 200) (by omega) (fun s hs => hg.len s hs) zs
  have := Nat.mul_le_mul_right 200 (Nat.le_trans h0 hz)
  omega
 obtain ⟨m, hm⟩ : ∃ m, unb (rngV s.nx) s.l * 40001 + (putX s.l x).length < m := ⟨_, Nat.lt_succ_self _⟩
 obtain ⟨h1, r, h2, h3⟩ := QI (Q := Qn s.nx) (V := rngV s.nx) (fun x hx hv => mem_rngV.2 (hx.1 hv)) (fun x hx hv => hx.zero hv) (B := s.nx) hn m s.l x y h.g hx.wf hy.wf hx.q hy.q (bd x lx) (bd y ly) h.room hm
 obtain ⟨n, e1, e2⟩ := uniR_at ⟨r, m, h1, h2⟩
 obtain ⟨M, hM1, hM2⟩ : ∃ M, n <= M /\ m <= M := ⟨max n m, Nat.le_max_left _ _, Nat.le_max_right _ _⟩
 have er : uniR s.l x y = r := by
  have a1 := Vk hM1 _ _ _ _ e2
  have a2 := Vk hM2 _ _ _ _ h2
  exact Option.some.inj (a1.symm.trans a2)
 refine ⟨n, e1, e2, (YN _ _ _ _ _ e2).1, ?_⟩
 rw [er]; exact h3
theorem ua {s : IS} (h : s.code ≠ 0) (x y : List TyI) (a : Int) : xy s x y a = s := by unfold xy; rw [if_pos h]
theorem ub {s : IS} (h : s.code ≠ 0) (x y : List TyI) (a : Int) : yr s x y a = s := by unfold yr; rw [if_pos h]
theorem Xa {s : IS} (h : s.code = 0) {x y : List TyI} (a : Int) (hb : 200 < (putX s.l x).length \/ 200 < (putX s.l y).length) : xy s x y a = ⟨s.l, s.nx, 26, a⟩ := by unfold xy; rw [if_neg (by omega), if_pos hb]
theorem YL {s : IS} (h : s.code = 0) {x y : List TyI} (a : Int) (hb : 200 < (putX s.l x).length \/ 200 < (putX s.l y).length) : yr s x y a = ⟨s.l, s.nx, 26, a⟩ := by unfold yr; rw [if_neg (by omega), if_pos hb]
theorem Ua {s : IS} (h : s.code = 0) {x y : List TyI} (a : Int) (hb : ¬ (200 < (putX s.l x).length \/ 200 < (putX s.l y).length)) (hz : (uniR s.l x y).2 = 0) : xy s x y a = ⟨(uniR s.l x y).1, s.nx, s.code, s.at_⟩ := by unfold xy; rw [if_neg (by omega), if_neg hb, if_pos hz]
theorem sameS_0 {s : IS} (h : s.code = 0) {x y : List TyI} (a : Int) (hb : ¬ (200 < (putX s.l x).length \/ 200 < (putX s.l y).length)) (hz : (uniR s.l x y).2 = 0) : yr s x y a = ⟨(uniR s.l x y).1, s.nx, s.code, s.at_⟩ := by unfold yr; rw [if_neg (by omega), if_neg hb, if_pos hz]
theorem Ub {s : IS} (h : s.code = 0) {x y : List TyI} (a : Int) (hb : ¬ (200 < (putX s.l x).length \/ 200 < (putX s.l y).length)) (hz : (uniR s.l x y).2 ≠ 0) : xy s x y a = ⟨(uniR s.l x y).1, s.nx, (uniR s.l x y).2 + 22, a⟩ := by unfold xy; rw [if_neg (by omega), if_neg hb, if_neg hz]
theorem sameS_n {s : IS} (h : s.code = 0) {x y : List TyI} (a : Int) (hb : ¬ (200 < (putX s.l x).length \/ 200 < (putX s.l y).length)) (hz : (uniR s.l x y).2 ≠ 0) : yr s x y a = ⟨s.l, s.nx, (uniR s.l x y).2 + 22, a⟩ := by unfold yr; rw [if_neg (by omega), if_neg hb, if_neg hz]
theorem vF (s : IS) (x y : List TyI) (a : Int) : (xy s x y a).nx = s.nx := by
 unfold xy; repeat' split
 all_goals rfl
structure Rl (s s' : IS) : Prop where
 c : s.code = s'.code
 a : s.at_ = s'.at_
 e : s.code = 0 -> s = s'
theorem Rl.refl (s : IS) : Rl s s := ⟨rfl, rfl, fun _ => rfl⟩
theorem uniR_code {s : IS} (h : GoodS s) (hn : s.nx <= 3000000) {x y : List TyI} (hx : TyG s.nx x) (hy : TyG s.nx y) (hb : ¬ (200 < (putX s.l x).length \/ 200 < (putX s.l y).length)) : 0 <= (uniR s.l x y).2 := by
 obtain ⟨_, _, _, h3, _⟩ := Xb h hn hx hy (by omega) (by omega)
 exact h3
structure Stp (s s1 : IS) (k : Nat) : Prop where
 le : s.nx <= s1.nx
 up : s1.nx <= s.nx + k
 code : s.code ≠ 0 -> s1.code = s.code /\ s1.at_ = s.at_
 ok : OkS s -> s1.nx <= 3000000 -> OkS s1
theorem Stp.refl (s : IS) : Stp s s 0 := ⟨Nat.le_refl _, Nat.le_refl _, fun _ => ⟨rfl, rfl⟩, fun h _ => h⟩
theorem Stp.wide {s s1 : IS} {j k : Nat} (h : Stp s s1 j) (hk : j <= k) : Stp s s1 k := ⟨h.le, by have := h.up; omega, h.code, h.ok⟩
theorem Stp.z {s s1 : IS} {j : Nat} (h : Stp s s1 j) (hz : s1.code = 0) : s.code = 0 := by
 rcases Classical.em (s.code = 0) with q | q
 ·exact q
 ·rw [(h.code q).1] at hz; exact absurd hz q
theorem stp_inc (s : IS) (k : Nat) : Stp s (incM s k) k := ⟨Nat.le_add_right _ _, Nat.le_refl _, fun _ => ⟨rfl, rfl⟩, fun h _ => h.inc k⟩
theorem QD (s : IS) (c a : Int) (hc : c ≠ 0) : Stp s (yx s c a) 0 := by
 unfold yx
 split
 ·rename_i q; exact ⟨Nat.le_refl _, Nat.le_refl _, fun h => absurd q h, fun _ _ h => absurd h hc⟩
 ·exact Stp.refl s
theorem uI (s : IS) (c a : Int) (hc : c ≠ 0) : (yx s c a).code ≠ 0 := by
 unfold yx
 split
 ·exact hc
 ·rename_i q; exact q
theorem X5 {s : IS} {x y : List TyI} (a : Int) (hs : OkS s) (hn : s.nx <= 3000000) (hx : s.code = 0 -> TyG s.nx x) (hy : s.code = 0 -> TyG s.nx y) : Stp s (xy s x y a) 0 := by
 rcases Classical.em (s.code = 0) with q | q
 ·rcases Classical.em (200 < (putX s.l x).length \/ 200 < (putX s.l y).length) with hb | hb
  ·rw [Xa q a hb]
   exact ⟨Nat.le_refl _, Nat.le_refl _, fun h => absurd q h, fun _ _ h => absurd h (show ¬ ((26 : Int) = 0) by decide)⟩
  ·obtain ⟨n, u1, u2, u3, u4⟩ := Xb (hs q) hn (hx q) (hy q) (by omega) (by omega)
   rcases Classical.em ((uniR s.l x y).2 = 0) with hz | hz
   ·rw [Ua q a hb hz]
    have P := u4 hz
    exact ⟨Nat.le_refl _, Nat.le_refl _, fun h => absurd q h, fun _ _ _ => ⟨P.good, by have := P.room; have := (hs q).room; show (uniR s.l x y).1.length + unb (rngV s.nx) (uniR s.l x y).1 <= s.nx; omega⟩⟩
   ·rw [Ub q a hb hz]
    exact ⟨Nat.le_refl _, Nat.le_refl _, fun h => absurd q h, fun _ _ h => absurd h (show ¬ (uniR s.l x y).2 + 22 = 0 by omega)⟩
 ·rw [ua q]; exact Stp.refl s
theorem Zb {s s' : IS} (h : Rl s s') (hs : OkS s) (hn : s.nx <= 3000000) {x y x' y' : List TyI} (hx : s.code = 0 -> TyG s.nx x /\ x = x') (hy : s.code = 0 -> TyG s.nx y /\ y = y') (a : Int) : Rl (xy s x y a) (yr s' x' y' a) := by
 rcases Classical.em (s.code = 0) with q | q
 ·obtain rfl := h.e q
  obtain ⟨gx, rfl⟩ := hx q
  obtain ⟨gy, rfl⟩ := hy q
  rcases Classical.em (200 < (putX s.l x).length \/ 200 < (putX s.l y).length) with hb | hb
  ·rw [Xa q a hb, YL q a hb]; exact Rl.refl _
  ·rcases Classical.em ((uniR s.l x y).2 = 0) with hz | hz
   ·rw [Ua q a hb hz, sameS_0 q a hb hz]; exact Rl.refl _
   ·rw [Ub q a hb hz, sameS_n q a hb hz]
    have := uniR_code (hs q) hn gx gy hb
    exact ⟨rfl, rfl, fun hc => absurd hc (show ¬ (uniR s.l x y).2 + 22 = 0 by omega)⟩
 ·rw [ua q, ub (by rw [<- h.c]; exact q)]; exact h
theorem lk_fresh (k n : Nat) (v : Int) (h0 : 0 <= v) (h1 : v < k) : lk (xi k n) v ≠ none := fun h => by
 refine wG.1 h ⟨((v.toNat : Nat) : Int), [fvI (n + v.toNat)]⟩ ?_ (by show ((v.toNat : Nat) : Int) = v; omega)
 unfold xi
 rw [List.mem_map]
 exact ⟨v.toNat, List.mem_range.2 (by omega), rfl⟩
theorem uK {k n : Nat} {s : SubM} (h : s ∈ xi k n) : ∃ v, v < k /\ s = ⟨(v : Nat), [fvI (n + v)]⟩ := by
 unfold xi at h
 obtain ⟨v, hv, rfl⟩ := List.mem_map.1 h
 exact ⟨v, List.mem_range.1 hv, rfl⟩
theorem wl (x : TyI) : varB x = x.name.data.toList.isEmpty := by unfold varB; rw [ByteArray.toList_eq]
def itemD (x : TyI) : Bool :=
 if x.name.data.toList.isEmpty then decide (0 <= x.v) && decide (x.v <= 9999) && (x.ar == 0)
 else (x.v == 0) && (if x.name.data.toList == [45, 62] || x.name.data.toList == [42] then x.ar == 2 else if x.name.data.toList == [114, 101, 102] then x.ar == 1 else xU x.name && decide (0 <= x.ar) && decide (x.ar <= 2))
theorem um (x : TyI) : xF x = itemD x := by unfold xF itemD; simp only [ByteArray.toList_eq]
theorem varB_fv (n : Nat) : varB (fvI n) = true := by rw [wl]; rfl
theorem fv_Q {n m : Nat} (h : n < m) : Qn m (fvI n) := ⟨fun _ => ⟨by show (0 : Int) <= (n : Int); omega, by show (n : Int) < m; omega⟩, fun h => by rw [varB_fv] at h; cases h⟩
theorem fv_row (n : Nat) : rowT 1 [fvI n] := rfl
theorem fv_G {n m : Nat} (h : n < m) : TyG m [fvI n] := ⟨⟨fv_row n, fun x hx => by rw [List.mem_singleton.1 hx]; exact ⟨Int.le_refl _, (by decide : (0 : Int) <= 2)⟩, fun x hx _ => by rw [List.mem_singleton.1 hx]; rfl⟩, fun x hx => by rw [List.mem_singleton.1 hx]; exact fv_Q h⟩
theorem nm_G (m : Nat) (s : ByteArray) (h1 : varB ⟨0, s, 0⟩ = false) (h2 : xF ⟨0, s, 0⟩ = true) : TyG m (nmT s) := ⟨⟨rfl, fun x hx => by rw [List.mem_singleton.1 hx]; exact ⟨Int.le_refl _, (by decide : (0 : Int) <= 2)⟩, fun x hx _ => by rw [List.mem_singleton.1 hx]⟩, fun x hx => by rw [List.mem_singleton.1 hx]; exact ⟨fun q => (by rw [h1] at q; cases q), fun _ => h2⟩⟩
theorem TyG.bin {n : Nat} {a b : List TyI} (x : TyI) (h1 : varB x = false) (h2 : xF x = true) (h3 : x.ar = 2) (ha : TyG n a) (hb : TyG n b) : TyG n (x :: (a ++ b)) := by
 have hq : Qn n x := ⟨fun q => (by rw [h1] at q; cases q), fun _ => h2⟩
 refine ⟨⟨?_, fun y hy => ?_, fun y hy hv => ?_⟩, fun y hy => ?_⟩
 ·have := Z4 ha.wf.row hb.wf.row
  unfold rowT at this ⊢
  rw [show arsM (x :: (a ++ b)) = x.ar.toNat :: arsM (a ++ b) from rfl, scan, h3]
  have e : (0 + (2 : Int).toNat) = 1 + 1 := rfl
  rw [e, this]; rfl
 ·rcases List.mem_cons.1 hy with rfl | hy
  ·omega
  ·rcases List.mem_append.1 hy with hy | hy
   ·exact ha.wf.ar y hy
   ·exact hb.wf.ar y hy
 ·rcases List.mem_cons.1 hy with rfl | hy
  ·rw [h1] at hv; cases hv
  ·rcases List.mem_append.1 hy with hy | hy
   ·exact ha.wf.var y hy hv
   ·exact hb.wf.var y hy hv
 ·rcases List.mem_cons.1 hy with rfl | hy
  ·exact hq
  ·rcases List.mem_append.1 hy with hy | hy
   ·exact ha.q y hy
   ·exact hb.q y hy
theorem TyG.one {n : Nat} {a : List TyI} (x : TyI) (h1 : varB x = false) (h2 : xF x = true) (h3 : x.ar = 1) (ha : TyG n a) : TyG n (x :: a) := by
 have hq : Qn n x := ⟨fun q => (by rw [h1] at q; cases q), fun _ => h2⟩
 refine ⟨⟨?_, fun y hy => ?_, fun y hy hv => ?_⟩, fun y hy => ?_⟩
 ·have := ha.wf.row
  unfold rowT at this ⊢
  rw [show arsM (x :: a) = x.ar.toNat :: arsM a from rfl, scan, h3]
  have e : (0 + (1 : Int).toNat) = 1 := rfl
  rw [e, this]; rfl
 ·rcases List.mem_cons.1 hy with rfl | hy
  ·omega
  ·exact ha.wf.ar y hy
 ·rcases List.mem_cons.1 hy with rfl | hy
  ·rw [h1] at hv; cases hv
  ·exact ha.wf.var y hy hv
 ·rcases List.mem_cons.1 hy with rfl | hy
  ·exact hq
  ·exact ha.q y hy
theorem UL {k n : Nat} {t : List TyI} (h : TyG k t) : TyG (n + k) (putX (xi k n) t) := by
 have hw : ∀ s ∈ xi k n, rowT 1 s.ty := fun s hs => by obtain ⟨v, _, rfl⟩ := uK hs; exact fv_row _
 refine ⟨⟨W9 hw t 1 h.wf.var h.wf.row, fun y hy => ?_, fun y hy hv => ?_⟩, fun y hy => ?_⟩
 ·rcases z9 hy with ⟨q, -⟩ | ⟨s, hs, hy, -⟩
  ·exact h.wf.ar y q
  ·obtain ⟨v, _, rfl⟩ := uK hs; rw [List.mem_singleton.1 hy]; exact ⟨Int.le_refl _, (by decide : (0 : Int) <= 2)⟩
 ·rcases z9 hy with ⟨q, -⟩ | ⟨s, hs, hy, -⟩
  ·exact h.wf.var y q hv
  ·obtain ⟨v, _, rfl⟩ := uK hs; rw [List.mem_singleton.1 hy]; rfl
 ·rcases z9 hy with ⟨q, hno⟩ | ⟨s, hs, hy, -⟩
  ·refine ⟨fun hb => ?_, (h.q y q).2⟩
   have := (h.q y q).1 hb
   exact absurd (hno hb) (lk_fresh k n y.v this.1 this.2)
  ·obtain ⟨v, hv, rfl⟩ := uK hs; rw [List.mem_singleton.1 hy]; exact fv_Q (by omega)
theorem yW (k n : Nat) (t : List TyI) : (putX (xi k n) t).length <= t.length := by
 have := zn (l := xi k n) (B := 1) (Nat.le_refl _) (fun s hs => by obtain ⟨v, _, rfl⟩ := uK hs; exact Nat.le_refl _) t
 omega
structure yh (ts : List MType) : Prop where
 len : ts.length <= 8
 nm : ∀ t ∈ ts, xU t.name = true
 par : ∀ t ∈ ts, 0 <= t.params /\ t.params <= 2
 cl : ∀ t ∈ ts, t.cons.length <= 8
 arg : ∀ t ∈ ts, ∀ c ∈ t.cons, c.has = true -> TyG t.params.toNat c.arg /\ c.arg.length <= 200
 no : ∀ t ∈ ts, ∀ c ∈ t.cons, c.has = false -> c.arg = []
theorem parV_row (k : Nat) : rowT k (parV k) := by
 induction k with
 | zero => rfl
 | succ k ih => rw [YI]; exact Z4 ih (fv_row k)
theorem ZP {k : Nat} {x : TyI} (h : x ∈ parV k) : ∃ v, v < k /\ x = fvI v := by
 unfold parV at h
 obtain ⟨v, hv, rfl⟩ := List.mem_map.1 h
 exact ⟨v, List.mem_range.1 hv, rfl⟩
theorem UW {s : ByteArray} (h : xU s = true) (k : Int) (h0 : 0 <= k) (h2 : k <= 2) : varB ⟨0, s, k⟩ = false /\ xF ⟨0, s, k⟩ = true := by
 have hn := h
 unfold xU at h
 rw [Bool.and_eq_true, Bool.and_eq_true] at h
 obtain ⟨⟨hw, hh⟩, hk⟩ := h
 have key : ∀ b : ByteArray, s.toList = b.toList -> s = b := fun b e => y4.1 (beq_iff_eq.2 e)
 have he : s.toList ≠ [] := fun e => by
  have e2 : s = ⟨#[]⟩ := key _ (by rw [e, ByteArray.toList_eq])
  rw [e2] at hh; revert hh; decide
 have hr : s.toList ≠ [114, 101, 102] := fun e => by
  have e2 : s = ⟨#[114, 101, 102]⟩ := key _ (by rw [e, ByteArray.toList_eq])
  rw [e2] at hk; revert hk; decide
 have ha : s.toList ≠ [45, 62] := fun e => by
  have e2 : s = ⟨#[45, 62]⟩ := key _ (by rw [e, ByteArray.toList_eq])
  rw [e2] at hh; revert hh; decide
 have hm : s.toList ≠ [42] := fun e => by
  have e2 : s = ⟨#[42]⟩ := key _ (by rw [e, ByteArray.toList_eq])
  rw [e2] at hh; revert hh; decide
 refine ⟨by unfold varB; simpa using he, ?_⟩
 unfold xF
 rw [if_neg (by simpa using he), if_neg (by simp [ha, hm]), if_neg (by simp [hr])]
 simp [hn, h0, h2]
theorem own_G {t : MType} (hn : xU t.name = true) (hp : 0 <= t.params /\ t.params <= 2) : TyG t.params.toNat (ownT t) /\ (ownT t).length <= 3 := by
 obtain ⟨i1, i2⟩ := UW hn t.params hp.1 hp.2
 refine ⟨⟨⟨?_, fun x hx => ?_, fun x hx hv => ?_⟩, fun x hx => ?_⟩, ?_⟩
 ·have := parV_row t.params.toNat
  unfold rowT at this ⊢
  rw [show arsM (ownT t) = t.params.toNat :: arsM (parV t.params.toNat) from rfl, scan, Nat.zero_add, this]; rfl
 ·rcases List.mem_cons.1 hx with rfl | hx
  ·exact hp
  ·obtain ⟨v, _, rfl⟩ := ZP hx; exact ⟨Int.le_refl _, (by decide : (0 : Int) <= 2)⟩
 ·rcases List.mem_cons.1 hx with rfl | hx
  ·rw [i1] at hv; cases hv
  ·obtain ⟨v, _, rfl⟩ := ZP hx; rfl
 ·rcases List.mem_cons.1 hx with rfl | hx
  ·exact ⟨fun q => (by rw [i1] at q; cases q), fun _ => i2⟩
  ·obtain ⟨v, hv, rfl⟩ := ZP hx; exact fv_Q hv
 ·unfold ownT; rw [List.length_cons, Qo]; omega
theorem Xh {ts : List MType} {s : ByteArray} {q : MType × MCon} (h : yd ts s = some q) : q.1 ∈ ts /\ q.2 ∈ q.1.cons := by
 unfold yd at h
 have := List.mem_of_find?_eq_some h
 obtain ⟨t, ht, hq⟩ := List.mem_flatMap.1 this
 obtain ⟨c, hc, rfl⟩ := List.mem_map.1 hq
 exact ⟨ht, hc⟩
theorem WW (n : Nat) : TyG (n + 1) ym := TyG.one ⟨0, ⟨#[108, 105, 115, 116]⟩, 1⟩ (by rw [wl]; decide) (by rw [um]; decide) rfl (fv_G (by omega : 0 < n + 1))
theorem pairT_G (n : Nat) : TyG (n + 1) (wV ++ ym) := TyG.bin ⟨0, ⟨#[42]⟩, 2⟩ (by rw [wl]; decide) (by rw [um]; decide) rfl (fv_G (by omega : 0 < n + 1)) (WW n)
structure ConG (own arg : List TyI) (many : Int) : Prop where
 m : 0 <= many /\ many <= 2
 ol : 0 < own.length /\ own.length <= 3
 al : arg.length <= 200
 og : TyG many.toNat own
 ag : 0 < arg.length -> TyG many.toNat arg
theorem WS {ts : List MType} (T : yh ts) {name : ByteArray} {own arg : List TyI} {many : Int} (h : yi ts name = some (own, arg, many)) : ConG own arg many := by
 unfold yi at h
 split at h
 ·injection h with h; injection h with e1 h; injection h with e2 e3; subst e1 e2 e3
  exact ⟨⟨Int.le_refl _, by decide⟩, ⟨by decide, by decide⟩, by decide, nm_G 0 _ (by rw [wl]; decide) (by rw [um]; decide), fun q => absurd q (by decide)⟩
 split at h
 ·injection h with h; injection h with e1 h; injection h with e2 e3; subst e1 e2 e3
  exact ⟨⟨by decide, by decide⟩, ⟨by decide, by decide⟩, by decide, WW 0, fun q => absurd q (by decide)⟩
 split at h
 ·injection h with h; injection h with e1 h; injection h with e2 e3; subst e1 e2 e3
  exact ⟨⟨by decide, by decide⟩, ⟨by decide, by decide⟩, by decide, WW 0, fun _ => pairT_G 0⟩
 obtain ⟨⟨t, c⟩, hf, e⟩ := Option.map_eq_some_iff.1 h
 injection e with e1 e; injection e with e2 e3; subst e1 e2 e3
 obtain ⟨ht, hc⟩ := Xh hf
 obtain ⟨o1, o2⟩ := own_G (T.nm t ht) (T.par t ht)
 refine ⟨T.par t ht, ⟨o1.wf.pos, o2⟩, ?_, o1, fun q => ?_⟩
 ·unfold argT
  split
  ·rename_i e; exact (T.arg t ht c hc e).2
  ·exact Nat.zero_le _
 ·unfold argT at q ⊢
  split at q
  ·rename_i e; rw [if_pos e]; exact (T.arg t ht c hc e).1
  ·exact absurd q (Nat.lt_irrefl _)
theorem uH (ts : List MType) (s : IS) (name : ByteArray) (has : Bool) (a : Int) :
  (yi ts name = none /\ conI ts s name has a = (⟨[], [], false⟩, yx s 22 a)) \/
  ∃ own arg many, yi ts name = some (own, arg, many) /\
   ((has ≠ decide (0 < arg.length) /\ conI ts s name has a = (⟨[], [], false⟩, yx s 23 a)) \/
    (has = decide (0 < arg.length) /\ conI ts s name has a = (⟨putX (xi many.toNat s.nx) own, putX (xi many.toNat s.nx) arg, true⟩, incM s many.toNat))) := by
 unfold conI
 cases h : yi ts name with
 | none => exact .inl ⟨rfl, rfl⟩
 | some q =>
  obtain ⟨own, arg, many⟩ := q
  refine .inr ⟨own, arg, many, rfl, ?_⟩
  dsimp only
  by_cases e : has = decide (0 < arg.length)
  ·exact .inr ⟨e, by rw [if_neg (by simp [e])]⟩
  ·exact .inl ⟨e, by rw [if_pos e]⟩
theorem conS_of {ts : List MType} (T : yh ts) (s : IS) (name : ByteArray) :
  (yi ts name = none -> zL ts s name = none) /\
  ∀ own arg many, yi ts name = some (own, arg, many) -> ∃ arg', zL ts s name = some ((putX (xi many.toNat s.nx) own, arg', decide (0 < arg.length)), incM s many.toNat) /\ (0 < arg.length -> arg' = putX (xi many.toNat s.nx) arg) := by
 unfold yi zL
 by_cases h1 : name.toList = [116, 114, 117, 101] \/ name.toList = [102, 97, 108, 115, 101]
 ·rw [if_pos h1, if_pos h1]
  refine ⟨nofun, fun own arg many h => ?_⟩
  injection h with h; injection h with e1 h; injection h with e2 e3; subst e1 e2 e3
  have e : putX (xi (Int.toNat 0) s.nx) vP = vP := vj fun x _ _ => rfl
  exact ⟨[], by rw [e]; rfl, fun q => absurd q (by decide)⟩
 rw [if_neg h1, if_neg h1]
 by_cases h2 : name.toList = [91, 93]
 ·rw [if_pos h2, if_pos (.inl h2)]
  refine ⟨nofun, fun own arg many h => ?_⟩
  injection h with h; injection h with e1 h; injection h with e2 e3; subst e1 e2 e3
  exact ⟨_, by rw [h2]; rfl, fun q => absurd q (by decide)⟩
 rw [if_neg h2]
 by_cases h3 : name.toList = [58, 58]
 ·rw [if_pos h3, if_pos (.inr h3)]
  refine ⟨nofun, fun own arg many h => ?_⟩
  injection h with h; injection h with e1 h; injection h with e2 e3; subst e1 e2 e3
  exact ⟨_, by rw [h3]; rfl, fun _ => rfl⟩
 rw [if_neg h3, if_neg (by simp [h2, h3])]
 cases hf : yd ts name with
 | none => exact ⟨fun _ => rfl, nofun⟩
 | some q =>
  obtain ⟨t, c⟩ := q
  refine ⟨nofun, fun own arg many h => ?_⟩
  rw [Option.map_some] at h
  injection h with h; injection h with e1 h; injection h with e2 e3; subst e1 e2 e3
  obtain ⟨ht, hc⟩ := Xh hf
  cases e : c.has with
  | true =>
   have ea : argT c = c.arg := by unfold argT; rw [if_pos e]
   have hp := (T.arg t ht c hc e).1.wf.pos
   refine ⟨putX (xi t.params.toNat s.nx) c.arg, ?_, fun _ => ?_⟩
   ·rw [Option.map_some]; dsimp only; rw [ea, e, decide_eq_true hp]
   ·rw [ea]
  | false =>
   have ea : argT c = [] := by unfold argT; rw [e]; rfl
   refine ⟨putX (xi t.params.toNat s.nx) c.arg, ?_, fun q => ?_⟩
   ·rw [Option.map_some]; dsimp only; rw [ea, e]; rfl
   ·rw [ea] at q; exact absurd q (Nat.lt_irrefl _)
theorem Zd {ts : List MType} (T : yh ts) (s : IS) (name : ByteArray) (has : Bool) (a : Int) : Stp s (conI ts s name has a).2 2 := by
 rcases uH ts s name has a with ⟨-, e⟩ | ⟨own, arg, many, h, ⟨-, e⟩ | ⟨-, e⟩⟩
 ·rw [e]; exact (QD s 22 a (by decide)).wide (Nat.zero_le _)
 ·rw [e]; exact (QD s 23 a (by decide)).wide (Nat.zero_le _)
 ·rw [e]; exact (stp_inc s _).wide (by have := (WS T h).m; omega)
theorem Wr {ts : List MType} (T : yh ts) (s : IS) (name : ByteArray) (has : Bool) (a : Int) : ((conI ts s name has a).1.ok = true -> TyG (conI ts s name has a).2.nx (conI ts s name has a).1.own /\ (has = true -> TyG (conI ts s name has a).2.nx (conI ts s name has a).1.arg)) /\ ((conI ts s name has a).1.ok = false -> (conI ts s name has a).2.code ≠ 0) /\ (conI ts s name has a).1.own.length <= 3 /\ (conI ts s name has a).1.arg.length <= 200 := by
 rcases uH ts s name has a with ⟨-, e⟩ | ⟨own, arg, many, h, ⟨-, e⟩ | ⟨e0, e⟩⟩
 ·rw [e]; exact ⟨nofun, fun _ => uI s 22 a (by decide), Nat.zero_le _, Nat.zero_le _⟩
 ·rw [e]; exact ⟨nofun, fun _ => uI s 23 a (by decide), Nat.zero_le _, Nat.zero_le _⟩
 ·have G := WS T h
  rw [e]
  refine ⟨fun _ => ⟨UL G.og, fun q => UL (G.ag ?_)⟩, nofun, Nat.le_trans (yW _ _ _) G.ol.2, Nat.le_trans (yW _ _ _) G.al⟩
  rw [e0] at q; exact of_decide_eq_true q
theorem WZ {ts : List MType} (T : yh ts) {s : IS} (hz : s.code = 0) (name : ByteArray) (has : Bool) (a : Int) :
  Rl (conI ts s name has a).2 (xk ts s name has a).2 /\ ((conI ts s name has a).2.code = 0 -> (conI ts s name has a).1.ok = true /\ (conI ts s name has a).1.own = (xk ts s name has a).1.1 /\ (has = true -> (conI ts s name has a).1.arg = (xk ts s name has a).1.2)) := by
 obtain ⟨c1, c2⟩ := conS_of T s name
 rcases uH ts s name has a with ⟨h, e⟩ | ⟨own, arg, many, h, ⟨e0, e⟩ | ⟨e0, e⟩⟩
 ·rw [e]
  unfold xk
  rw [c1 h]
  exact ⟨Rl.refl _, fun q => absurd q (uI s 22 a (by decide))⟩
 ·obtain ⟨arg', c3, c4⟩ := c2 _ _ _ h
  rw [e]
  unfold xk
  rw [c3]
  dsimp only
  rw [if_pos (Ne.symm e0)]
  refine ⟨⟨?_, ?_, fun q => absurd q (uI s 23 a (by decide))⟩, fun q => absurd q (uI s 23 a (by decide))⟩
  ·unfold yx; rw [if_pos hz, if_pos (show (incM s many.toNat).code = 0 from hz)]
  ·unfold yx; rw [if_pos hz, if_pos (show (incM s many.toNat).code = 0 from hz)]
 ·obtain ⟨arg', c3, c4⟩ := c2 _ _ _ h
  rw [e]
  unfold xk
  rw [c3]
  dsimp only
  rw [if_neg (by simp [e0])]
  refine ⟨Rl.refl _, fun _ => ⟨rfl, rfl, fun q => (c4 ?_).symm⟩⟩
  rw [e0] at q; exact of_decide_eq_true q
structure PatG (ts : List MType) (at_ : Int) (t : PT) (e : List Bnd) (s : IS) : Prop where
 st : OkS s -> (patI ts at_ t e s).2.2.nx <= 3000000 -> OkS (patI ts at_ t e s).2.2
 le : s.nx <= (patI ts at_ t e s).2.2.nx
 up : (patI ts at_ t e s).2.2.nx <= s.nx + 2 * t.size
 code : s.code ≠ 0 -> (patI ts at_ t e s).2.2.code = s.code /\ (patI ts at_ t e s).2.2.at_ = s.at_
 len : (patI ts at_ t e s).1.length <= 3 * t.size
 ty : OkS s -> (patI ts at_ t e s).2.2.nx <= 3000000 -> (patI ts at_ t e s).2.2.code = 0 -> TyG (patI ts at_ t e s).2.2.nx (patI ts at_ t e s).1
 rl : ∀ s', Rl s s' -> OkS s -> (patI ts at_ t e s).2.2.nx <= 3000000 -> Rl (patI ts at_ t e s).2.2 (patS ts at_ t e s').2.2 /\ ((patI ts at_ t e s).2.2.code = 0 -> (patI ts at_ t e s).1 = (patS ts at_ t e s').1 /\ (patI ts at_ t e s).2.1 = (patS ts at_ t e s').2.1)
theorem vt {s s' : IS} {k : IS} (h : Rl s s') (hz : s.code ≠ 0) (hk : k.code = s.code /\ k.at_ = s.at_) : Rl k s' := ⟨hk.1.trans h.c, hk.2.trans h.a, fun q => absurd (hk.1.symm.trans q) hz⟩
theorem con1G {ts : List MType} (T : yh ts) (at_ : Int) (a : PI) (l : List PT) (x : PT) (e : List Bnd) (s : IS) (k : a.kind = 4) (hl : l = [x]) (ih : ∀ (e : List Bnd) (s : IS), PatG ts at_ x e s) : PatG ts at_ (.mk a l) e s := by
 subst hl
 have C := Wr T s a.s true at_
 have L := WZ T (s := s) (name := a.s) (has := true) (a := at_)
 have S := Zd T s a.s true at_
 have K := ih e (conI ts s a.s true at_).2
 have hsz : (Arb.mk a [x]).size = 1 + x.size := by rw [size_mk, sizeL_cons, sizeL_nil]; omega
 cases hc : (conI ts s a.s true at_).1.ok with
 | false =>
  have hz := C.2.1 hc
  have h1 := Qp (ts := ts) (at_ := at_) (e := e) (s := s) (a := a) (l := [x]) k (c := (conI ts s a.s true at_).1) (s1 := (conI ts s a.s true at_).2) rfl hc
  refine ⟨?_, ?_, ?_, ?_, ?_, ?_, ?_⟩
  all_goals rw [h1]
  ·exact S.ok
  ·exact S.le
  ·have := S.up; show (conI ts s a.s true at_).2.nx <= _; omega
  ·exact S.code
  ·have := C.2.2.1; show (conI ts s a.s true at_).1.own.length <= _; omega
  ·exact fun _ _ q => absurd q hz
  ·intro s' hr hs' hn'
   refine ⟨?_, fun q => absurd q hz⟩
   rcases Classical.em (s.code = 0) with q | q
   ·obtain rfl := hr.e q
    have h2 := (L q).1
    rw [vC (l := [x]) q k (c := (xk ts s a.s true at_).1) (s1 := (xk ts s a.s true at_).2) rfl (by rw [<- h2.c]; exact hz)]
    exact h2
   ·rw [yp (by rw [<- hr.c]; exact q)]
    exact vt hr q (S.code q)
 | true =>
  have h1 := U4 (ts := ts) (at_ := at_) (e := e) (s := s) (a := a) (x := x) k (c := (conI ts s a.s true at_).1) (s1 := (conI ts s a.s true at_).2) (s2 := (patI ts at_ x e (conI ts s a.s true at_).2).2.2) (t := (patI ts at_ x e (conI ts s a.s true at_).2).1) (e2 := (patI ts at_ x e (conI ts s a.s true at_).2).2.1) rfl hc rfl
  obtain ⟨c1, c2⟩ := C.1 hc
  have c2 := c2 rfl
  generalize hq : conI ts s a.s true at_ = Q at *
  obtain ⟨c, s1⟩ := Q
  dsimp only at *
  generalize hq2 : patI ts at_ x e s1 = R at *
  obtain ⟨t, e2, s2⟩ := R
  dsimp only at *
  have Kst := K.st; have Kle := K.le; have Kup := K.up; have Kcode := K.code; have Klen := K.len; have Kty := K.ty; have Krl := K.rl
  rw [hq2] at Kst Kle Kup Kcode Klen Kty Krl
  dsimp only at *
  have ok1 : OkS s -> s2.nx <= 3000000 -> OkS s1 := fun ho hn => S.ok ho (by omega)
  have Kz : s2.code = 0 -> s1.code = 0 := fun hz => by
   rcases Classical.em (s1.code = 0) with q | q
   ·exact q
   ·rw [(Kcode q).1] at hz; exact absurd hz q
  have tyk : OkS s -> s2.nx <= 3000000 -> s2.code = 0 -> TyG s2.nx t := fun ho hn hz => Kty (ok1 ho hn) hn hz
  have P : OkS s -> s2.nx <= 3000000 -> Stp s2 (xy s2 t c.arg at_) 0 := fun ho hn => X5 at_ (Kst (ok1 ho hn) hn) hn (tyk ho hn) fun _ => c2.mono Kle
  have nx : (xy s2 t c.arg at_).nx = s2.nx := vF _ _ _ _
  have dead : s.code ≠ 0 -> (xy s2 t c.arg at_).code = s.code /\ (xy s2 t c.arg at_).at_ = s.at_ := fun hz => by
   obtain ⟨a1, a2⟩ := S.code hz
   obtain ⟨b1, b2⟩ := Kcode (by rw [a1]; exact hz)
   rw [ua (by rw [b1, a1]; exact hz)]
   exact ⟨b1.trans a1, b2.trans a2⟩
  refine ⟨?_, ?_, ?_, ?_, ?_, ?_, ?_⟩
  all_goals rw [h1]
  all_goals dsimp only
  ·intro ho hn
   rw [nx] at hn
   exact (P ho hn).ok (Kst (ok1 ho hn) hn) (by rw [nx]; exact hn)
  ·rw [nx]; have := S.le; omega
  ·rw [nx]; have := S.up; omega
  ·exact dead
  ·have := C.2.2.1; omega
  ·intro ho hn hz
   rw [nx] at hn ⊢
   exact c1.mono Kle
  ·intro s' hr hs' hn'
   rw [nx] at hn'
   rcases Classical.em (s.code = 0) with q | q
   ·obtain rfl := hr.e q
    obtain ⟨L1, L2⟩ := L q
    rcases Classical.em (s1.code = 0) with q1 | q1
    ·obtain ⟨-, L3, L4⟩ := L2 q1
     have L4 := L4 rfl
     have e1 := L1.e q1
     have z2 : (xk ts s a.s true at_).2.code = 0 := by rw [<- L1.c]; exact q1
     obtain ⟨K1, K2⟩ := Krl _ L1 (ok1 hs' hn') hn'
     rw [vZ q k (c := (xk ts s a.s true at_).1) (s1 := (xk ts s a.s true at_).2) (x := x) rfl z2 rfl]
     have rr := Zb K1 (Kst (ok1 hs' hn') hn') hn' (x := t) (y := c.arg) (x' := (patS ts at_ x e (xk ts s a.s true at_).2).1) (y' := (xk ts s a.s true at_).1.2) (fun hz => ⟨tyk hs' hn' hz, (K2 hz).1⟩) (fun hz => ⟨c2.mono Kle, L4⟩) at_
     refine ⟨rr, fun hz => ?_⟩
     have := (P hs' hn').z hz
     exact ⟨L3, (K2 this).2⟩
    ·have z2 : (xk ts s a.s true at_).2.code ≠ 0 := by rw [<- L1.c]; exact q1
     rw [vC (l := [x]) q k (c := (xk ts s a.s true at_).1) (s1 := (xk ts s a.s true at_).2) rfl z2]
     have d := Kcode q1
     rw [ua (by rw [d.1]; exact q1)]
     exact ⟨⟨d.1.trans L1.c, d.2.trans L1.a, fun hz => absurd (d.1.symm.trans hz) q1⟩, fun hz => absurd (d.1.symm.trans hz) q1⟩
   ·rw [yp (by rw [<- hr.c]; exact q)]
    exact ⟨vt hr q (dead q), fun hz => absurd ((dead q).1.symm.trans hz) q⟩
theorem pairG {ts : List MType} (T : yh ts) (at_ : Int) (a : PI) (x y : PT) (e : List Bnd) (s : IS) (k : a.kind = 5) (ihx : ∀ (e : List Bnd) (s : IS), PatG ts at_ x e s) (ihy : ∀ (e : List Bnd) (s : IS), PatG ts at_ y e s) : PatG ts at_ (.mk a [x, y]) e s := by
 have K := ihx e s
 have H := ihy (patI ts at_ x e s).2.1 (patI ts at_ x e s).2.2
 have hsz : (Arb.mk a [x, y]).size = 1 + (x.size + y.size) := by rw [size_mk, sizeL_cons, sizeL_cons, sizeL_nil]; omega
 have h1 := U5 (ts := ts) (at_ := at_) (e := e) (s := s) (a := a) (x := x) (y := y) k (t1 := (patI ts at_ x e s).1) (e1 := (patI ts at_ x e s).2.1) (s1 := (patI ts at_ x e s).2.2) (t2 := (patI ts at_ y (patI ts at_ x e s).2.1 (patI ts at_ x e s).2.2).1) (e2 := (patI ts at_ y (patI ts at_ x e s).2.1 (patI ts at_ x e s).2.2).2.1) (s2 := (patI ts at_ y (patI ts at_ x e s).2.1 (patI ts at_ x e s).2.2).2.2) rfl rfl
 have Kst := K.st; have Kle := K.le; have Kup := K.up; have Kcode := K.code; have Klen := K.len; have Kty := K.ty; have Krl := K.rl
 have Hst := H.st; have Hle := H.le; have Hup := H.up; have Hcode := H.code; have Hlen := H.len; have Hty := H.ty; have Hrl := H.rl
 clear K H
 generalize hq2 : patI ts at_ x e s = R at *
 obtain ⟨t, e1, s1⟩ := R
 dsimp only at *
 generalize hq3 : patI ts at_ y e1 s1 = R2 at *
 obtain ⟨u, e2, s2⟩ := R2
 dsimp only at *
 have dead : s.code ≠ 0 -> s2.code = s.code /\ s2.at_ = s.at_ := fun hz => by
  obtain ⟨a1, a2⟩ := Kcode hz
  obtain ⟨b1, b2⟩ := Hcode (by rw [a1]; exact hz)
  exact ⟨b1.trans a1, b2.trans a2⟩
 have Hz : s2.code = 0 -> s1.code = 0 := fun hz => by
  rcases Classical.em (s1.code = 0) with q | q
  ·exact q
  ·rw [(Hcode q).1] at hz; exact absurd hz q
 refine ⟨?_, ?_, ?_, ?_, ?_, ?_, ?_⟩
 all_goals rw [h1]
 all_goals dsimp only
 ·exact fun ho hn => Hst (Kst ho (by omega)) hn
 ·omega
 ·omega
 ·exact dead
 ·rw [List.length_cons, List.length_append]; omega
 ·intro ho hn hz
  exact TyG.bin zp (by rw [wl]; decide) (by rw [um]; decide) rfl ((Kty ho (by omega) (Hz hz)).mono Hle) (Hty (Kst ho (by omega)) hn hz)
 ·intro s' hr hs' hn'
  rcases Classical.em (s.code = 0) with q | q
  ·obtain rfl := hr.e q
   obtain ⟨K1, K2⟩ := Krl _ (Rl.refl s) hs' (by omega)
   obtain ⟨H1, H2⟩ := Hrl _ K1 (Kst hs' (by omega)) hn'
   rcases Classical.em (s1.code = 0) with q1 | q1
   ·obtain ⟨K3, K4⟩ := K2 q1
    rw [uL q k (x := x) (y := y) (t1 := (patS ts at_ x e s).1) (e1 := (patS ts at_ x e s).2.1) (s1 := (patS ts at_ x e s).2.2) rfl rfl]
    rw [<- K4, <- K3]
    exact ⟨H1, fun hz => ⟨by rw [(H2 hz).1], (H2 hz).2⟩⟩
   ·have d := Hcode q1
    have z2 : (patS ts at_ x e s).2.2.code ≠ 0 := by rw [<- K1.c]; exact q1
    have h3 := yp (ts := ts) (at_ := at_) (x := y) (e := (patS ts at_ x e s).2.1) z2
    rw [uL q k (x := x) (y := y) (t1 := (patS ts at_ x e s).1) (e1 := (patS ts at_ x e s).2.1) (s1 := (patS ts at_ x e s).2.2) rfl h3]
    exact ⟨vt K1 q1 d, fun hz => absurd (d.1.symm.trans hz) q1⟩
  ·rw [yp (by rw [<- hr.c]; exact q)]
   exact ⟨vt hr q (dead q), fun hz => absurd ((dead q).1.symm.trans hz) q⟩
theorem patG {ts : List MType} (T : yh ts) (at_ : Int) : ∀ t : PT, okP t -> ∀ (e : List Bnd) (s : IS), PatG ts at_ t e s := fun t => by
 induction t using Arb.ind with
 | h a l ih =>
  intro ho e s
  have simple : ∀ (ty : List TyI) (e1 : List Bnd) (k : Nat), k <= 1 -> patI ts at_ (.mk a l) e s = (ty, e1, incM s k) -> (s.code = 0 -> patS ts at_ (.mk a l) e s = (ty, e1, incM s k)) -> ty.length <= 3 -> TyG (s.nx + k) ty -> PatG ts at_ (.mk a l) e s := by
   intro ty e1 k hk h1 h2 h3 h4
   have hsz := Arb.size_pos (Arb.mk a l)
   refine ⟨?_, ?_, ?_, ?_, ?_, ?_, ?_⟩
   all_goals rw [h1]
   ·exact fun ho _ => ho.inc k
   ·exact Nat.le_add_right _ _
   ·show s.nx + k <= _; omega
   ·exact fun _ => ⟨rfl, rfl⟩
   ·show ty.length <= _; omega
   ·exact fun _ _ _ => h4
   ·intro s' hr hs hn
    rcases Classical.em (s.code = 0) with q | q
    ·obtain rfl := hr.e q
     rw [h2 q]
     exact ⟨Rl.refl _, fun _ => ⟨rfl, rfl⟩⟩
    ·rw [yp (by rw [<- hr.c]; exact q)]
     exact ⟨vt hr q ⟨rfl, rfl⟩, fun hc => absurd hc q⟩
  have inc0 : incM s 0 = s := rfl
  rcases ho.root with ⟨k, hl, hn, hs⟩ | ⟨k, hl, hn, hs⟩ | ⟨k, hl, h1, h2, hs⟩ | ⟨k, hl, hn, hs⟩ | ⟨b, x, y, k, hl, hn, hb, hs⟩ | ⟨x, k, hl, hn, hs⟩ | ⟨x, y, k, hl, hn, hs⟩ | ⟨k, hl, hn, hs⟩
  ·exact simple _ _ 1 (Nat.le_refl _) (U7 k) (fun q => v5 q k) (by simp) (fv_G (by omega))
  ·exact simple _ _ 1 (Nat.le_refl _) (Qr k) (fun q => XV q k) (by simp) (fv_G (by omega))
  ·exact simple _ _ 0 (Nat.zero_le _) (Qq k) (fun q => XT q k) (by decide) (nm_G _ _ (by rw [wl]; decide) (by rw [um]; decide))
  ·subst hl
   have C := Wr T s a.s false at_
   have L := WZ T (s := s) (name := a.s) (has := false) (a := at_)
   have S := Zd T s a.s false at_
   have h1 := U3 (ts := ts) (at_ := at_) (e := e) (s := s) k (c := (conI ts s a.s false at_).1) (s1 := (conI ts s a.s false at_).2) rfl
   have hsz := Arb.size_pos (Arb.mk a ([] : List PT))
   refine ⟨?_, ?_, ?_, ?_, ?_, ?_, ?_⟩
   all_goals rw [h1]
   ·exact S.ok
   ·exact S.le
   ·have := S.up; show (conI ts s a.s false at_).2.nx <= _; omega
   ·exact S.code
   ·have := C.2.2.1; show (conI ts s a.s false at_).1.own.length <= _; omega
   ·intro _ _ hz
    refine (C.1 ?_).1
    cases q : (conI ts s a.s false at_).1.ok with
    | true => rfl
    | false => exact absurd hz (C.2.1 q)
   ·intro s' hr hs' hn'
    rcases Classical.em (s.code = 0) with q | q
    ·obtain rfl := hr.e q
     rw [vY q k rfl]
     exact ⟨(L q).1, fun hz => ⟨((L q).2 hz).2.1, rfl⟩⟩
    ·rw [yp (by rw [<- hr.c]; exact q)]
     exact ⟨vt hr q (S.code q), fun hz => absurd (S.z hz) q⟩
  ·exact con1G T at_ a l _ e s k hl (ih _ (by rw [hl]; exact List.mem_singleton.2 rfl) (ho.kid _ (by rw [hl]; exact List.mem_singleton.2 rfl)))
  ·exact con1G T at_ a l _ e s k hl (ih _ (by rw [hl]; exact List.mem_singleton.2 rfl) (ho.kid _ (by rw [hl]; exact List.mem_singleton.2 rfl)))
  ·subst hl
   exact pairG T at_ a x y e s k (ih x (by simp) (ho.kid x (by simp))) (ih y (by simp) (ho.kid y (by simp)))
  ·exact simple _ _ 0 (Nat.zero_le _) (U6 k) (fun q => v4 q k) (by decide) (nm_G _ _ (by rw [wl]; decide) (by rw [um]; decide))
end
section
open Go.RowKit
theorem c_bindO (T Nn : List (List D)) (n0 n1 n2 : Int) (l : List SubM) (v : Int) (u : List TyI) (hl : l.length <= 3000000) (hu : u.length <= 1000000) (hs : ∀ s ∈ l, s.ty.length <= 1000000 /\ (putX [⟨v, u⟩] s.ty).length <= 1000000000) :
  FCon Tryz.prog 150 [.opa 2 [.sl 3 T, .sl 6 Nn, .osl 160 2 (l.map SubM.enc), .s (.int .i64 n0), .s (.int .i64 n1), .s (.int .i64 n2)], .s (.int .i64 v), .sl 3 (u.map TyI.enc)] (fun r o => r = .s (.int .i64 (xv l v u).2) /\ o = [.opa 2 [.sl 3 T, .sl 6 Nn, .osl 160 2 ((xv l v u).1.map SubM.enc), .s (.int .i64 n0), .s (.int .i64 n1), .s (.int .i64 n2)], .un, .un]) := by
 by_cases hv : v ∈ xm u
 ·have hd : decide (v ∈ xm u) = true := decide_eq_true hv
  have hbm : xv l v u = (l, 3) := by unfold xv; rw [if_pos hv]
  rw [hbm]
  refine FI PM Tryz.func150 Tryz.ntmps150 [] rfl rfl ?_
  (have hWf := w1 @hd; repeat' (first | refine zS ?_ | refine zI ?_ ?_ | ((with_reducible apply xc); refine zG (uh u (by omega)) ?_) | refine zU (uh u (by omega)) ?_ | refine zK (y9 (xm u) v) ?_ | exact zF0 | refine zD fun hb => ?_ | exact zC | refine zT ?_ | fail))
 ·have hd : decide (v ∈ xm u) = false := decide_eq_false hv
  have hbm : xv l v u = (xp l v u, if (decide (200 < u.length) || bigU (xw l v u)) = true then 4 else 0) := by unfold xv; rw [if_neg hv]
  rw [hbm]
  refine FI PM Tryz.func150 Tryz.ntmps150 [] rfl rfl ?_
  (have hWf := w1 @hd; repeat' (first | refine zS ?_ | refine zI ?_ ?_ | ((with_reducible apply xc); refine zG (uh u (by omega)) ?_) | refine zU (uh u (by omega)) ?_ | refine zK (y9 (xm u) v) ?_ | exact zF0 | refine zD fun hb => ?_ | exact zC | refine zT ?_ | fail))
  refine uE (yS 21 (.arr 160 2 [[.s (.int .i64 v), .sl 3 (u.map TyI.enc)]]) (by simp only [go_sem, simprocAttr]) rfl (xj ?_))
  simp only [go_sem, simprocAttr]
  refine xd (fun n σ => ∃ k : Nat, k <= l.length /\ n = l.length - k /\ σ.t 0 = .bx 900000 2 /\ σ.t 1 = .s (.int .i64 v) /\ σ.t 7 = .sl 2 [[.s (.int .i64 v), .sl 3 (u.map TyI.enc)]] /\ σ.t 8 = .s (.bool (decide (200 < u.length) || bigU (xw (l.take k) v u))) /\ σ.t 9 = .bs 25 2 k /\ σ.t 29 = .bs 3900000 2 l.length /\ σ.t 30 = .s (.int .i64 l.length) /\ σ.t 31 = .s (.int .i64 k) /\
   σ.b 900000 = some (.box [.sl 3 T, .sl 6 Nn, .bs 3900000 2 l.length, .s (.int .i64 n0), .s (.int .i64 n1), .s (.int .i64 n2)]) /\ σ.b 3900000 = some (.arr 160 2 (l.map SubM.enc)) /\ σ.b 25 = some (.arr 160 2 ((xw (l.take k) v u).map SubM.enc))) l.length ⟨0, by omega, by omega, ?_⟩ ?_
  ·simp only [go_sem, simprocAttr, Int.natCast_zero, List.take_zero, xw, bigU, wR]
  ·rintro n σ ⟨k, hk, rfl, h0, h1, h7, h8, h9, h29, h30, h31, b0, b1, b2⟩ K' hK
   have hnl : (xw (l.take k) v u).length = k := by rw [yF, List.length_take]; omega
   by_cases hlt : k < l.length
   ·have hx := xb SubM.enc l k hlt
    have he := SubM.enc_eq l[k]
    have hsk := hs l[k] (List.getElem_mem hlt)
    have hst := xax v u hlt
    (have hWf := w10 @h0 @h1 @h7 @h8 @h9 @h29 @h30 @h31 @b0 (ai @b1 <| ai @b2 <| ai @hx <| ai @he <| @hnl); repeat' (first | refine zS ?_ | refine zI ?_ ?_ | ((with_reducible apply xc); refine zG (c_putI l[k].ty [⟨v, u⟩] (by omega) (by omega)) ?_) | refine zU (c_putI l[k].ty [⟨v, u⟩] (by omega) (by omega)) ?_ | exact zF0 | refine zD fun hb => ?_ | exact zC | refine zT ?_ | fail))
    refine hK (l.length - (k + 1)) _ (by omega) ⟨k + 1, by omega, rfl, ?_⟩
    simp only [go_sem, simprocAttr, h0, h1, h7, h8, h9, h29, h30, h31, b0, b1, b2, Int.natCast_succ, hst, List.map_append, SubM.enc_eq, VH, Bool.or_assoc, wR]
   ·obtain rfl : k = l.length := by omega
    rw [List.take_length] at h8 b2 hnl
    (have hWf := w10 @h0 @h1 @h7 @h8 @h9 @h29 @h30 @h31 @b0 (ai @b1 <| ai @b2 <| @hnl); repeat' (first | refine zS ?_ | refine zI ?_ ?_ | exact zF0 | refine zD fun hb => ?_ | exact zC | refine zT ?_ | fail))
    refine xd (fun n σ => ∃ k : Nat, k <= cntU l v /\ n = cntU l v - k /\ σ.t 0 = .bx 900000 2 /\ σ.t 1 = .s (.int .i64 v) /\ σ.t 7 = .sl 2 [[.s (.int .i64 v), .sl 3 (u.map TyI.enc)]] /\ σ.t 8 = .s (.bool (decide (200 < u.length) || bigU (xw l v u))) /\ σ.t 9 = .bs 25 2 l.length /\ σ.t 12 = .s (.int .i64 k) /\
     σ.b 900000 = some (.box [.sl 3 T, .sl 6 Nn, .bs 3900000 2 l.length, .s (.int .i64 n0), .s (.int .i64 n1), .s (.int .i64 n2)]) /\ σ.b 3900000 = some (.arr 160 2 (l.map SubM.enc)) /\ σ.b 25 = some (.arr 160 2 ((xw l v u).map SubM.enc))) (cntU l v) ⟨0, by omega, by omega, ?_⟩ ?_
    ·simp only [go_sem, simprocAttr, h0, h1, h7, h8, h9, h29, h30, h31, b0, b1, b2, Int.natCast_zero]
    ·rintro n σ ⟨k, hk, rfl, g0, g1, g7, g8, g9, g12, c0, c1, c2⟩ K'' hK''
     have hcl := YW l v
     have hnl := yF l v u
     by_cases hlt : k < l.length
     ·have hlt' : k < (xw l v u).length := by omega
      have hx := xb SubM.enc (xw l v u) k hlt'
      have he := SubM.enc_eq (xw l v u)[k]
      have hvk := W5 l v u k hlt'
      by_cases hlt2 : k < cntU l v
      ·have hd2 : decide ((xw l v u)[k].v < v) = true := by rw [hvk]; exact decide_eq_true (WR hlt2 hlt)
       (have hWf := w10 @g0 @g1 @g7 @g8 @g9 @g12 @c0 @c1 @c2 (ai @hx <| ai @he <| ai @hd2 <| @hnl); repeat' (first | refine zS ?_ | refine zI ?_ ?_ | exact zF0 | refine zD fun hb => ?_ | exact zC | refine zT ?_ | fail))
       refine hK'' (cntU l v - (k + 1)) _ (by omega) ⟨k + 1, by omega, rfl, ?_⟩
       simp only [go_sem, simprocAttr, g0, g1, g7, g8, g9, g12, c0, c1, c2, Int.natCast_succ]
      ·obtain rfl : k = cntU l v := by omega
       have hd2 : decide ((xw l v u)[cntU l v].v < v) = false := by rw [hvk]; exact decide_eq_false (WQ hlt)
       (have hWf := w10 @g0 @g1 @g7 @g8 @g9 @g12 @c0 @c1 @c2 (ai @hx <| ai @he <| ai @hd2 <| @hnl); repeat' (first | refine zS ?_ | refine zI ?_ ?_ | ((with_reducible apply xc); refine xg (XA (xw l v u) ⟨v, u⟩ (cntU l v) (by omega) (by omega)) ?_; rintro _ _ ⟨rfl, rfl⟩) | refine zU (XA (xw l v u) ⟨v, u⟩ (cntU l v) (by omega) (by omega)) ?_ | exact zF0 | refine zD fun hb => ?_ | exact zC | refine zT ?_ | fail))
       all_goals first | rfl | (clear hK'' hWf; simp_all; done) | (exact xq (if_pos (by simp_all)).symm) | (exact xq (if_neg (by simp_all)).symm) | fail
     ·obtain rfl : k = cntU l v := by omega
      have hdl : decide (((cntU l v : Nat) : Int) < (l.length : Nat)) = false := by simp; omega
      have hx0 : (List.map SubM.enc (xw l v u)).getD (cntU l v) [] = [] := by rw [List.getD_eq_getElem?_getD, List.getElem?_eq_none (by rw [List.length_map]; omega)]; rfl
      (have hWf := w10 @g0 @g1 @g7 @g8 @g9 @g12 @c0 @c1 @c2 (ai @hnl <| ai @hdl <| @hx0); repeat' (first | refine zS ?_ | refine zI ?_ ?_ | ((with_reducible apply xc); refine xg (XA (xw l v u) ⟨v, u⟩ (cntU l v) (by omega) (by omega)) ?_; rintro _ _ ⟨rfl, rfl⟩) | refine zU (XA (xw l v u) ⟨v, u⟩ (cntU l v) (by omega) (by omega)) ?_ | exact zF0 | refine zD fun hb => ?_ | exact zC | refine zT ?_ | fail))
      all_goals first | rfl | (clear hK'' hWf; simp_all; done) | (exact xq (if_pos (by simp_all)).symm) | (exact xq (if_neg (by simp_all)).symm) | fail
theorem VX (T Nn : List (List D)) (n0 n1 n2 : Int) : ∀ (n : Nat) (l : List SubM) (x y : List TyI) (r : List SubM × Int), UOk n l x y -> uniM n l x y = some r ->
  FCon Tryz.prog 104 [.opa 2 [.sl 3 T, .sl 6 Nn, .osl 160 2 (l.map SubM.enc), .s (.int .i64 n0), .s (.int .i64 n1), .s (.int .i64 n2)], .sl 3 (x.map TyI.enc), .sl 3 (y.map TyI.enc)] (fun q o => q = .s (.int .i64 r.2) /\ o = [.opa 2 [.sl 3 T, .sl 6 Nn, .osl 160 2 (r.1.map SubM.enc), .s (.int .i64 n0), .s (.int .i64 n1), .s (.int .i64 n2)], .un, .un])
 | 0, l, x, y, r, h, _ => h.elim
 | n + 1, l, x, y, r, h, hr => by
  obtain ⟨U, hk⟩ := h
  have hX := yR U.wX
  have hY := yR U.wY
  have eX := List.getElem?_eq_getElem hX
  have eY := List.getElem?_eq_getElem hY
  have ih := VX T Nn n0 n1 n2 n
  rw [uniM, eX, eY] at hr
  replace hk := hk _ _ eX eY
  simp only at hr
  have hx0 := xb TyI.enc (putX l x) 0 hX
  have hy0 := xb TyI.enc (putX l y) 0 hY
  have px := uV x l (by have := U.lx; omega) (by have := U.lX; omega)
  have py := uV y l (by have := U.ly; omega) (by have := U.lY; omega)
  have hlx : decide ((0 : Int) < (putX l x).length) = true := by simp; omega
  have hly : decide ((0 : Int) < (putX l y).length) = true := by simp; omega
  obtain ⟨lX, lY, sm, smp, ll, wX, wY⟩ : (putX l x).length <= 1000000 /\ (putX l y).length <= 1000000 /\ (∀ s ∈ l, s.ty.length <= 1000000) /\ (∀ (v : Int) (u : List TyI), u = putX l x \/ u = putX l y -> ∀ s ∈ l, (putX [⟨v, u⟩] s.ty).length <= 1000000000) /\ l.length <= 3000000 /\ wfT (putX l x) /\ wfT (putX l y) := ⟨U.lX, U.lY, U.sm, U.smp, U.ll, U.wX, U.wY⟩
  generalize hXX : putX l x = X at *
  generalize hYY : putX l y = Y at *
  clear hXX hYY U
  obtain ⟨a, ha⟩ : ∃ a, a = X[0] := ⟨_, rfl⟩
  obtain ⟨b, hb0⟩ : ∃ b, b = Y[0] := ⟨_, rfl⟩
  have hea := TyI.enc_eq a
  have heb := TyI.enc_eq b
  rw [<- ha] at hx0 hr hk
  rw [<- hb0] at hy0 hr hk
  unfold Y1 at hr
  have bX : ∀ v, FCon Tryz.prog 150 [.opa 2 [.sl 3 T, .sl 6 Nn, .osl 160 2 (l.map SubM.enc), .s (.int .i64 n0), .s (.int .i64 n1), .s (.int .i64 n2)], .s (.int .i64 v), .sl 3 (X.map TyI.enc)] (fun r o => r = .s (.int .i64 (xv l v X).2) /\ o = [.opa 2 [.sl 3 T, .sl 6 Nn, .osl 160 2 ((xv l v X).1.map SubM.enc), .s (.int .i64 n0), .s (.int .i64 n1), .s (.int .i64 n2)], .un, .un]) := fun v => c_bindO T Nn n0 n1 n2 l v X ll lX fun s hs => ⟨sm s hs, smp v X (.inl rfl) s hs⟩
  have bY : ∀ v, FCon Tryz.prog 150 [.opa 2 [.sl 3 T, .sl 6 Nn, .osl 160 2 (l.map SubM.enc), .s (.int .i64 n0), .s (.int .i64 n1), .s (.int .i64 n2)], .s (.int .i64 v), .sl 3 (Y.map TyI.enc)] (fun r o => r = .s (.int .i64 (xv l v Y).2) /\ o = [.opa 2 [.sl 3 T, .sl 6 Nn, .osl 160 2 ((xv l v Y).1.map SubM.enc), .s (.int .i64 n0), .s (.int .i64 n1), .s (.int .i64 n2)], .un, .un]) := fun v => c_bindO T Nn n0 n1 n2 l v Y ll lY fun s hs => ⟨sm s hs, smp v Y (.inr rfl) s hs⟩
  cases hva : varB a with
  | true =>
   have ea := Xu hva
   rw [if_pos hva] at hr
   cases hvb : varB b with
   | true =>
    have eb := Xu hvb
    rw [if_pos hvb] at hr
    by_cases hvv : a.v = b.v
    ·have e1 : (a.v == b.v) = true := by simpa using hvv
     rw [if_pos hvv] at hr
     obtain rfl : (l, 0) = r := by simpa using hr
     refine FI PM Tryz.func104 Tryz.ntmps104 [(1, 11, [], [], (lin [] [0, 1, 2, 3, 4, 5, 6, 7, 8, 9, 10])), (2, 9, [6, 7, 8], [(6, 0), (6, 1), (6, 2), (6, 3), (6, 4), (6, 5), (7, 0), (7, 1), (7, 2), (7, 3), (7, 4), (7, 5), (8, 3), (8, 4), (8, 5)], (.fl 0 (.fl 1 (.fl 2 (.fl 3 (.fl 4 (.fl 5 (.fx 6 (.fx 7 (.fx 8 .nil .no) .no) (.fx 7 (.fx 6 (.fx 8 .nil .no) .no) .no))))))))), (17, 9, [], [], (lin [] [0, 1, 2, 3, 4, 5, 6, 7, 8]))] rfl rfl ?_
     (have hWf := w10 @hx0 @hy0 @hea @heb @hlx @hly @ea @eb @e1 @lit0; repeat' (first | refine zS ?_ | refine zI ?_ ?_ | refine zK px ?_ | refine zK py ?_ | exact zF0 | refine zD fun hb => ?_ | exact zC | refine zT ?_ | fail))
    ·have e1 : (a.v == b.v) = false := by simpa using hvv
     rw [if_neg hvv] at hr
     by_cases hvl : a.v < b.v
     ·have e2 : decide (a.v < b.v) = true := decide_eq_true hvl
      rw [if_pos hvl] at hr
      obtain rfl : xv l b.v X = r := by simpa using hr
      refine FI PM Tryz.func104 Tryz.ntmps104 [(1, 11, [], [], (lin [] [0, 1, 2, 3, 4, 5, 6, 7, 8, 9, 10])), (2, 9, [6, 7, 8], [(6, 0), (6, 1), (6, 2), (6, 3), (6, 4), (6, 5), (7, 0), (7, 1), (7, 2), (7, 3), (7, 4), (7, 5), (8, 3), (8, 4), (8, 5)], (.fl 0 (.fl 1 (.fl 2 (.fl 3 (.fl 4 (.fl 5 (.fx 6 (.fx 7 (.fx 8 .nil .no) .no) (.fx 7 (.fx 6 (.fx 8 .nil .no) .no) .no))))))))), (17, 9, [], [], (lin [] [0, 1, 2, 3, 4, 5, 6, 7, 8]))] rfl rfl ?_
      (have hWf := w10 @hx0 @hy0 @hea @heb @hlx @hly @ea @eb @e1 (ai @e2 <| @lit0); repeat' (first | refine zS ?_ | refine zI ?_ ?_ | refine zK px ?_ | refine zK py ?_ | refine zH (bX b.v) ?_ | exact zF0 | refine zD fun hb => ?_ | exact zC | refine zT ?_ | fail))
     ·have e2 : decide (a.v < b.v) = false := decide_eq_false hvl
      rw [if_neg hvl] at hr
      obtain rfl : xv l a.v Y = r := by simpa using hr
      refine FI PM Tryz.func104 Tryz.ntmps104 [(1, 11, [], [], (lin [] [0, 1, 2, 3, 4, 5, 6, 7, 8, 9, 10])), (2, 9, [6, 7, 8], [(6, 0), (6, 1), (6, 2), (6, 3), (6, 4), (6, 5), (7, 0), (7, 1), (7, 2), (7, 3), (7, 4), (7, 5), (8, 3), (8, 4), (8, 5)], (.fl 0 (.fl 1 (.fl 2 (.fl 3 (.fl 4 (.fl 5 (.fx 6 (.fx 7 (.fx 8 .nil .no) .no) (.fx 7 (.fx 6 (.fx 8 .nil .no) .no) .no))))))))), (17, 9, [], [], (lin [] [0, 1, 2, 3, 4, 5, 6, 7, 8]))] rfl rfl ?_
      (have hWf := w10 @hx0 @hy0 @hea @heb @hlx @hly @ea @eb @e1 (ai @e2 <| @lit0); repeat' (first | refine zS ?_ | refine zI ?_ ?_ | refine zK px ?_ | refine zK py ?_ | refine zH (bY a.v) ?_ | exact zF0 | refine zD fun hb => ?_ | exact zC | refine zT ?_ | fail))
   | false =>
    have eb := Xt hvb
    rw [if_neg (by simp [hvb])] at hr
    obtain rfl : xv l a.v Y = r := by simpa using hr
    refine FI PM Tryz.func104 Tryz.ntmps104 [(1, 11, [], [], (lin [] [0, 1, 2, 3, 4, 5, 6, 7, 8, 9, 10])), (2, 9, [6, 7, 8], [(6, 0), (6, 1), (6, 2), (6, 3), (6, 4), (6, 5), (7, 0), (7, 1), (7, 2), (7, 3), (7, 4), (7, 5), (8, 3), (8, 4), (8, 5)], (.fl 0 (.fl 1 (.fl 2 (.fl 3 (.fl 4 (.fl 5 (.fx 6 (.fx 7 (.fx 8 .nil .no) .no) (.fx 7 (.fx 6 (.fx 8 .nil .no) .no) .no))))))))), (17, 9, [], [], (lin [] [0, 1, 2, 3, 4, 5, 6, 7, 8]))] rfl rfl ?_
    (have hWf := w9 @hx0 @hy0 @hea @heb @hlx @hly @ea @eb @lit0; repeat' (first | refine zS ?_ | refine zI ?_ ?_ | refine zK px ?_ | refine zK py ?_ | refine zH (bY a.v) ?_ | exact zF0 | refine zD fun hb => ?_ | exact zC | refine zT ?_ | fail))
  | false =>
   have ea := Xt hva
   rw [if_neg (by simp [hva])] at hr
   cases hvb : varB b with
   | true =>
    have eb := Xu hvb
    rw [if_pos hvb] at hr
    obtain rfl : xv l b.v X = r := by simpa using hr
    refine FI PM Tryz.func104 Tryz.ntmps104 [(1, 11, [], [], (lin [] [0, 1, 2, 3, 4, 5, 6, 7, 8, 9, 10])), (2, 9, [6, 7, 8], [(6, 0), (6, 1), (6, 2), (6, 3), (6, 4), (6, 5), (7, 0), (7, 1), (7, 2), (7, 3), (7, 4), (7, 5), (8, 3), (8, 4), (8, 5)], (.fl 0 (.fl 1 (.fl 2 (.fl 3 (.fl 4 (.fl 5 (.fx 6 (.fx 7 (.fx 8 .nil .no) .no) (.fx 7 (.fx 6 (.fx 8 .nil .no) .no) .no))))))))), (17, 9, [], [], (lin [] [0, 1, 2, 3, 4, 5, 6, 7, 8]))] rfl rfl ?_
    (have hWf := w9 @hx0 @hy0 @hea @heb @hlx @hly @ea @eb @lit0; repeat' (first | refine zS ?_ | refine zI ?_ ?_ | refine zK px ?_ | refine zK py ?_ | refine zH (bX b.v) ?_ | exact zF0 | refine zD fun hb => ?_ | exact zC | refine zT ?_ | fail))
   | false =>
    have eb := Xt hvb
    rw [if_neg (by simp [hvb])] at hr
    by_cases hnn : a.name.toList = b.name.toList
    ·have e1 : (a.name.toList == b.name.toList) = true := by simpa using hnn
     by_cases har : a.ar = b.ar
     ·have e2 : (a.ar != b.ar) = false := by simpa using har
      rw [if_neg (by simp [hnn, har])] at hr
      replace hk := hk hva hvb hnn har
      have kX := VM X wX lX
      have kY := VM Y wY lY
      rw [<- ha] at kX
      rw [<- hb0, <- har] at kY
      refine FI PM Tryz.func104 Tryz.ntmps104 [(1, 11, [], [], (lin [] [0, 1, 2, 3, 4, 5, 6, 7, 8, 9, 10])), (2, 9, [6, 7, 8], [(6, 0), (6, 1), (6, 2), (6, 3), (6, 4), (6, 5), (7, 0), (7, 1), (7, 2), (7, 3), (7, 4), (7, 5), (8, 3), (8, 4), (8, 5)], (.fl 0 (.fl 1 (.fl 2 (.fl 3 (.fl 4 (.fl 5 (.fx 6 (.fx 7 (.fx 8 .nil .no) .no) (.fx 7 (.fx 6 (.fx 8 .nil .no) .no) .no))))))))), (17, 9, [], [], (lin [] [0, 1, 2, 3, 4, 5, 6, 7, 8]))] rfl rfl ?_
      (have hWf := w10 @hx0 @hy0 @hea @heb @hlx @hly @ea @eb @e1 (ai @e2 <| @lit0); repeat' (first | refine zS ?_ | refine zI ?_ ?_ | refine zK px ?_ | refine zK py ?_ | refine zK kX ?_ | refine zK kY ?_ | exact zF0 | refine zD fun hb => ?_ | exact zC | refine zT ?_ | fail))
      have hm2 : a.ar.toNat <= 2 := by have := (wX.1 _ (List.getElem_mem hX)).2; rw [<- ha] at this; omega
      generalize hm : a.ar.toNat = m at *
      have hkX := vA X m
      have hkY := vA Y m
      refine xd (fun q σ => ∃ (i : Nat) (li : List SubM), i <= m /\ q = m - i /\ y6 (uniM n) X Y (m - i) i li = some r /\ Yf (UOk n) (uniM n) X Y (m - i) i li /\ σ.t 0 = .bx 900000 2 /\ σ.t 6 = .s (.int .i64 0) /\ σ.t 9 = .bs 1100 1 m /\ σ.t 10 = .bs 1102 1 m /\ σ.t 104 = .s (.int .i64 m) /\ σ.t 105 = .s (.int .i64 i) /\
       σ.b 900000 = some (.box [.sl 3 T, .sl 6 Nn, .bs 3900000 2 li.length, .s (.int .i64 n0), .s (.int .i64 n1), .s (.int .i64 n2)]) /\ σ.b 3900000 = some (.arr 160 2 (li.map SubM.enc)) /\ σ.b 1100 = some (.arr 29 1 ((kids X m).map kE)) /\ σ.b 1102 = some (.arr 29 1 ((kids Y m).map kE))) m ⟨0, l, by omega, by omega, hr, hk, ?_⟩ ?_
      ·simp only [go_sem, simprocAttr, Int.natCast_zero, hkX, hkY]
       all_goals trace_state
      ·rintro q σ ⟨i, li, hi, rfl, hr, hk, h0, h6, h9, h10, h104, h105, b0, b1, b2, b3⟩ K' hK
       by_cases hlt : i < m
       ·obtain ⟨j, hj⟩ : ∃ j, m - i = j + 1 := ⟨m - i - 1, by omega⟩
        rw [hj] at hr hk
        rw [y6] at hr
        obtain ⟨k1, k2⟩ := hk
        have hxk := xb kE (kids X m) i (by omega)
        have hyk := xb kE (kids Y m) i (by omega)
        have hxe : (kids X m)[i]'(by omega) = kid X i := by simp [kids]
        have hye : (kids Y m)[i]'(by omega) = kid Y i := by simp [kids]
        rw [hxe, kE_eq] at hxk
        rw [hye, kE_eq] at hyk
        cases hf : uniM n li (kid X i) (kid Y i) with
        | none => rw [hf] at hr; cases hr
        | some r1 =>
         rw [hf] at hr
         obtain ⟨l1, c1⟩ := r1
         have hcall := ih li (kid X i) (kid Y i) (l1, c1) k1 hf
         by_cases hc : c1 = 0
         ·have e3 : (c1 != 0) = false := by simp [hc]
          simp only [hc, if_true] at hr
          (have hWf := w10 @h0 @h6 @h9 @h10 @h104 @h105 @b0 @b1 @b2 (ai @b3 <| ai @hxk <| ai @hyk <| ai @e3 <| ai @hkX <| @hkY); repeat' (first | refine zS ?_ | refine zI ?_ ?_ | refine zH hcall ?_ | exact zF0 | refine zD fun hb => ?_ | exact zC | refine zT ?_ | fail))
          refine hK (m - (i + 1)) _ (by omega) ⟨i + 1, l1, by omega, rfl, by rw [show m - (i + 1) = j by omega]; exact hr, by rw [show m - (i + 1) = j by omega]; exact k2 l1 (by rw [hf, hc]), ?_⟩
          simp only [go_sem, simprocAttr, h0, h6, h9, h10, h104, h105, b0, b1, b2, b3, Int.natCast_succ]
         ·have e3 : (c1 != 0) = true := by simp [hc]
          simp only [hc, if_false] at hr
          obtain rfl : (l1, c1) = r := by simpa using hr
          (have hWf := w10 @h0 @h6 @h9 @h10 @h104 @h105 @b0 @b1 @b2 (ai @b3 <| ai @hxk <| ai @hyk <| ai @e3 <| ai @hkX <| @hkY); repeat' (first | refine zS ?_ | refine zI ?_ ?_ | refine zH hcall ?_ | exact zF0 | refine zD fun hb => ?_ | exact zC | refine zT ?_ | fail))
       ·obtain rfl : i = m := by omega
        rw [Nat.sub_self, y6] at hr
        obtain rfl : (li, 0) = r := by simpa using hr
        (have hWf := w10 @h0 @h6 @h9 @h10 @h104 @h105 @b0 @b1 @b2 @b3; repeat' (first | refine zS ?_ | refine zI ?_ ?_ | exact zF0 | refine zD fun hb => ?_ | exact zC | refine zT ?_ | fail))
     ·have e2 : (a.ar != b.ar) = true := by simpa using har
      rw [if_pos (.inr har)] at hr
      obtain rfl : (l, 2) = r := by simpa using hr
      refine FI PM Tryz.func104 Tryz.ntmps104 [(1, 11, [], [], (lin [] [0, 1, 2, 3, 4, 5, 6, 7, 8, 9, 10])), (2, 9, [6, 7, 8], [(6, 0), (6, 1), (6, 2), (6, 3), (6, 4), (6, 5), (7, 0), (7, 1), (7, 2), (7, 3), (7, 4), (7, 5), (8, 3), (8, 4), (8, 5)], (.fl 0 (.fl 1 (.fl 2 (.fl 3 (.fl 4 (.fl 5 (.fx 6 (.fx 7 (.fx 8 .nil .no) .no) (.fx 7 (.fx 6 (.fx 8 .nil .no) .no) .no))))))))), (17, 9, [], [], (lin [] [0, 1, 2, 3, 4, 5, 6, 7, 8]))] rfl rfl ?_
      (have hWf := w10 @hx0 @hy0 @hea @heb @hlx @hly @ea @eb @e1 (ai @e2 <| @lit0); repeat' (first | refine zS ?_ | refine zI ?_ ?_ | refine zK px ?_ | refine zK py ?_ | exact zF0 | refine zD fun hb => ?_ | exact zC | refine zT ?_ | fail))
    ·have e1 : (a.name.toList == b.name.toList) = false := by simpa using hnn
     rw [if_pos (.inl hnn)] at hr
     obtain rfl : (l, 2) = r := by simpa using hr
     refine FI PM Tryz.func104 Tryz.ntmps104 [(1, 11, [], [], (lin [] [0, 1, 2, 3, 4, 5, 6, 7, 8, 9, 10])), (2, 9, [6, 7, 8], [(6, 0), (6, 1), (6, 2), (6, 3), (6, 4), (6, 5), (7, 0), (7, 1), (7, 2), (7, 3), (7, 4), (7, 5), (8, 3), (8, 4), (8, 5)], (.fl 0 (.fl 1 (.fl 2 (.fl 3 (.fl 4 (.fl 5 (.fx 6 (.fx 7 (.fx 8 .nil .no) .no) (.fx 7 (.fx 6 (.fx 8 .nil .no) .no) .no))))))))), (17, 9, [], [], (lin [] [0, 1, 2, 3, 4, 5, 6, 7, 8]))] rfl rfl ?_
     (have hWf := w10 @hx0 @hy0 @hea @heb @hlx @hly @ea @eb @e1 @lit0; repeat' (first | refine zS ?_ | refine zI ?_ ?_ | refine zK px ?_ | refine zK py ?_ | exact zF0 | refine zD fun hb => ?_ | exact zC | refine zT ?_ | fail))
end
section
open Go.RowKit Arb
mutual
def pxO : PT -> D
 | .mk a l => .opt [.s (.int .i64 a.kind), .s (.int .i64 a.n), .s (.string a.s), .osl 96 1 (pxOL l)]
def pxOL : List PT -> List (List D)
 | [] => []
 | t :: l => [pxO t] :: pxOL l
end
mutual
def pxE : PT -> D
 | .mk a l => .pt [.s (.int .i64 a.kind), .s (.int .i64 a.n), .s (.string a.s), .sl 1 (pxEL l)]
def pxEL : List PT -> List (List D)
 | [] => []
 | t :: l => [pxE t] :: pxEL l
end
def pxR (t : PT) : List D := [pxO t]
def pxS (t : PT) : List D := [pxE t]
theorem pxOL_map (l : List PT) : pxOL l = l.map pxR := by
 induction l with
 | nil => rfl
 | cons t l ih => rw [pxOL, ih]; rfl
theorem pxEL_map (l : List PT) : pxEL l = l.map pxS := by
 induction l with
 | nil => rfl
 | cons t l ih => rw [pxEL, ih]; rfl
theorem Wz (a : PI) (l : List PT) : pxO (.mk a l) = .opt [.s (.int .i64 a.kind), .s (.int .i64 a.n), .s (.string a.s), .osl 96 1 (l.map pxR)] := by rw [pxO, pxOL_map]
theorem zd (a : PI) (l : List PT) : pxE (.mk a l) = .pt [.s (.int .i64 a.kind), .s (.int .i64 a.n), .s (.string a.s), .sl 1 (l.map pxS)] := by rw [pxE, pxEL_map]
theorem pxS_mk (a : PI) (l : List PT) : pxS (.mk a l) = [.pt [.s (.int .i64 a.kind), .s (.int .i64 a.n), .s (.string a.s), .sl 1 (l.map pxS)]] := by show [pxE _] = _; rw [zd]
theorem px_frz : ∀ t : PT, frz (pxO t) = pxE t := fun t => by
 induction t using Arb.ind with
 | h a l ih =>
  rw [Wz, zd]
  have : xN (l.map pxR) = l.map pxS := by
   rw [yX, List.map_map]
   refine List.map_congr_left fun x hx => ?_
   show frzL (pxR x) = pxS x
   simp only [pxR, pxS, frzL, ih x hx]
  simp only [frz, frzL, this, List.drop_zero]
theorem frA_px (t : PT) : frA (pxO t) = pxE t := by
 obtain ⟨a, l⟩ := t
 rw [<- px_frz, Wz]; rfl
theorem v6 (a : PI) (l : List Int) : (a.node l).enc = [.s (.int .i64 a.kind), .s (.int .i64 a.n), .s (.string a.s), .sl 1 (l.map iE)] := rfl
theorem XW {nodes : List DPNode} {m : Nat} {a : PI} {l : List PT} (h : At PI.node nodes m (.mk a l)) : (nodes.map DPNode.enc).getD m [] = (a.node (idxs (m + 1) l)).enc := by
 obtain ⟨hm, hr⟩ := List.getElem?_eq_some_iff.1 h.root
 rw [xb DPNode.enc nodes m hm, hr]
theorem xab (nodes : List DPNode) (hl : nodes.length <= 1000000) : ∀ (t : PT) (m : Nat), At PI.node nodes m t -> FCon Tryz.prog 48 [.sl 4 (nodes.map DPNode.enc), .s (.int .i64 m)] (fun r _ => r = pxO t) := fun t => by
 induction t using Arb.ind with
 | h a l ih =>
  intro m hA
  have hm := hA.lt
  have hx := XW hA
  have he := v6 a (idxs (m + 1) l)
  have hil := idxs_len (m + 1) l
  have hll : l.length <= 1000000 := by
   have h1 := hA.bd
   have h2 := sizeL_len l
   rw [size_mk] at h1
   omega
  rw [Wz]
  refine FI PM Tryz.func48 Tryz.ntmps48 [(6, 10, [7, 8, 9], [(7, 0), (7, 1), (7, 2), (7, 3), (7, 4), (8, 0), (8, 1), (8, 2), (8, 3), (8, 4), (9, 0)], (lin [7, 8, 9] [0, 1, 2, 3, 4, 5, 6, 7, 8, 9]))] rfl rfl ?_
  (have hWf := w3 @hx @he @hil; repeat' (first | refine zS ?_ | refine zI ?_ ?_ | exact zF0 | refine zD fun hb => ?_ | exact zC | refine zT ?_ | fail))
  refine uE (Yb 20 3 777 (row := [.s (.int .i64 a.kind), .s (.int .i64 a.n), .s (.string a.s), .nil]) 96 1 (by simp only [go_sem, simprocAttr]) rfl (by decide) rfl (xj ?_))
  simp only [go_sem, simprocAttr]
  refine xd (fun n σ => ∃ k : Nat, k <= l.length /\ n = l.length - k /\ σ.t 0 = .sl 4 (nodes.map DPNode.enc) /\ σ.t 6 = .bx 20 0 /\ σ.t 22 = .sl 1 ((idxs (m + 1) l).map iE) /\ σ.t 23 = .s (.int .i64 l.length) /\ σ.t 24 = .s (.int .i64 k) /\
   σ.b 20 = some (.box [.s (.int .i64 a.kind), .s (.int .i64 a.n), .s (.string a.s), .bs 777 1 k]) /\ σ.b 777 = some (.arr 96 1 ((l.take k).map pxR))) l.length ⟨0, by omega, by omega, ?_⟩ ?_
  ·simp only [go_sem, simprocAttr, Int.natCast_zero, List.take_zero]
  ·rintro n σ ⟨k, hk, rfl, h0, h6, h27, h28, h29, b25, b7⟩ K' hK
   by_cases hlt : k < l.length
   ·have hlt2 : k < (idxs (m + 1) l).length := by rw [hil]; exact hlt
    have hx2 := xb iE (idxs (m + 1) l) k hlt2
    have he2 : iE (idxs (m + 1) l)[k] = [.s (.int .i64 ((m + 1 + sizeL (l.take k) : Nat) : Int))] := by rw [idxs_at (m + 1) l k hlt]; rfl
    have hg := ih l[k] (List.getElem_mem hlt) _ (hA.kids.at k hlt)
    obtain ⟨b, r, hbr⟩ : ∃ b r, l[k] = .mk b r := ⟨_, _, Arb.eta _⟩
    have hex : pxR l[k] = [pxO l[k]] := rfl
    rw [hbr, Wz] at hg hex
    have htl : (l.take k).length = k := by rw [List.length_take]; omega
    have hts := List.take_succ_eq_append_getElem hlt
    (have hWf := w10 @h0 @h6 @h27 @h28 @h29 @b25 @b7 @hx2 @he2 (ai @hil <| @htl); repeat' (first | refine zS ?_ | refine zI ?_ ?_ | refine zX (FCon.noout hg) ?_ | ((with_reducible apply xc); refine zG (hg) ?_) | exact zF0 | refine zD fun hb => ?_ | exact zC | refine zT ?_ | fail))
    refine hK (l.length - (k + 1)) _ (by omega) ⟨k + 1, by omega, rfl, ?_⟩
    simp only [go_sem, simprocAttr, h0, h6, h27, h28, h29, b25, b7, Int.natCast_succ, hts, List.map_append, hbr, hex]
   ·obtain rfl : k = l.length := by omega
    rw [List.take_length] at b7
    (have hWf := w7 @h0 @h6 @h27 @h28 @h29 @b25 @b7; repeat' (first | refine zS ?_ | refine zI ?_ ?_ | exact zF0 | refine zD fun hb => ?_ | exact zC | refine zT ?_ | fail))
theorem c_growPat (nodes : List DPNode) (hl : nodes.length <= 1000000) (t : PT) (m : Nat) (hA : At PI.node nodes m t) : FCon Tryz.prog 48 [.sl 4 (nodes.map DPNode.enc), .s (.int .i64 m)] (fun r _ => r = pxE t) :=
 FCon.ice ((xab nodes hl t m hA).mono fun r _ e => by subst e; exact frA_px t)
end
section
open Go.RowKit
theorem FCon.iceO {P : Program} {f : FuncId} {args o : List D} {y : D} (h : FCon P f args (fun r o' => frA r = y /\ o' = o)) : FCon P f args (fun r o' => r = y /\ o' = o) := h.frz.mono fun _ _ ⟨_, e, q⟩ => ⟨q.trans e.1, e.2⟩
def nwT (x x' : D) : Prop := x' = x \/ (x = .nil /\ ∃ k, x' = .sl k []) \/ (x = .ag [.nil] /\ ∃ k, x' = .ag [.sl k []])
theorem rn_nw {g : Gh} {w : World} {m : Nat} {x x' : D} {u : Value} (h : nwT x x') (hr : RN g w m x u) : RN g w m x' u := by
 rcases h with rfl | ⟨rfl, k, rfl⟩ | ⟨rfl, k, rfl⟩
 ·exact hr
 ·exact Rep.nil_sl k (show Rep g.S g.up w (some (.ans m 0)) .nil u from hr)
 ·obtain ⟨us, rfl, hl, hc⟩ := hr
  refine ⟨us, rfl, by simpa using hl, fun l x u hx hu => ?_⟩
  match l, hx with
  | 0, hx =>
   have hx : D.sl k [] = x := by simpa using hx
   subst hx
   exact Rep.nil_sl k (hc 0 _ u rfl hu)
  | l + 1, hx => simp at hx
theorem FCon.tupN {P : Program} {f : FuncId} {args o : List D} {xs xs' : List D} (h : FCon P f args (fun r o' => r = .tup xs /\ o' = o)) (hl : xs'.length = xs.length) (hc : ∀ (m : Nat) (x x' : D), xs[m]? = some x -> xs'[m]? = some x' -> nwT x x') : FCon P f args (fun r o' => r = .tup xs' /\ o' = o) := h.wk fun r o' e => by
 obtain ⟨rfl, rfl⟩ := e
 exact ⟨_, ⟨rfl, rfl⟩, fun g w v hv => Xw hl (fun m x x' hx hx' u hu => rn_nw (hc m x x' hx hx') hu) hv⟩
theorem FCon.tup1 {P : Program} {f : FuncId} {args o : List D} {k : Nat} {c : D} (h : FCon P f args (fun r o' => r = .tup [.nil, c] /\ o' = o)) : FCon P f args (fun r o' => r = .tup [.sl k [], c] /\ o' = o) := h.tupN rfl fun m x x' hx hx' => by
 match m, hx, hx' with
 | 0, hx, hx' => exact .inr (.inl ⟨(Option.some.inj hx).symm, k, (Option.some.inj hx').symm⟩)
 | 1, hx, hx' => exact .inl (by rw [<- Option.some.inj hx, <- Option.some.inj hx'])
 | m + 2, hx, hx' => simp at hx
theorem FCon.tupA {P : Program} {f : FuncId} {args o : List D} {k : Nat} {c : D} (h : FCon P f args (fun r o' => r = .tup [.ag [.nil], c] /\ o' = o)) : FCon P f args (fun r o' => r = .tup [.ag [.sl k []], c] /\ o' = o) := h.tupN rfl fun m x x' hx hx' => by
 match m, hx, hx' with
 | 0, hx, hx' => exact .inr (.inr ⟨(Option.some.inj hx).symm, k, (Option.some.inj hx').symm⟩)
 | 1, hx, hx' => exact .inl (by rw [<- Option.some.inj hx, <- Option.some.inj hx'])
 | m + 2, hx, hx' => simp at hx
end
section
open Go.RowKit Arb
def fR (T N : List (List D)) (s : IS) : List D := [.sl 3 T, .sl 6 N, .osl 160 2 (s.l.map SubM.enc), .s (.int .i64 s.nx), .s (.int .i64 s.code), .s (.int .i64 s.at_)]
theorem xr (T N : List (List D)) (s : IS) : fR T N s = [.sl 3 T, .sl 6 N, .osl 160 2 (s.l.map SubM.enc), .s (.int .i64 s.nx), .s (.int .i64 s.code), .s (.int .i64 s.at_)] := rfl
section
variable {T N : List (List D)}
theorem XB (s : IS) (h : s.nx <= 4000000) : FCon Tryz.prog 99 [.opt (fR T N s)] (fun r o => r = .sl 3 [(fvI s.nx).enc] /\ o = [.opt (fR T N (incM s 1))]) := by
 refine FCon.iceO ?_
 rw [xr, xr]
 refine FI PM Tryz.func99 Tryz.ntmps99 [] rfl rfl ?_
 (have hWf := f0; repeat' (first | refine zS ?_ | refine zI ?_ ?_ | exact zF0 | refine zD fun hb => ?_ | exact zC | refine zT ?_ | fail))
 ·rw [Int.add_sub_cancel]; rfl
 ·rfl
theorem Yn (s : IS) (c a : Int) : FCon Tryz.prog 103 [.opt (fR T N s), .s (.int .i64 c), .s (.int .i64 a)] (fun r o => r = .s (.bool false) /\ o = [.opt (fR T N (yx s c a)), .un, .un]) := by
 unfold yx
 by_cases h : s.code = 0
 ·have e : (s.code == 0) = true := by simp [h]
  rw [if_pos h, xr, xr]
  refine FI PM Tryz.func103 Tryz.ntmps103 [] rfl rfl ?_
  (have hWf := w1 @e; repeat' (first | refine zS ?_ | refine zI ?_ ?_ | exact zF0 | refine zD fun hb => ?_ | exact zC | refine zT ?_ | fail))
 ·have e : (s.code == 0) = false := by simpa using h
  rw [if_neg h, xr]
  refine FI PM Tryz.func103 Tryz.ntmps103 [] rfl rfl ?_
  (have hWf := w1 @e; repeat' (first | refine zS ?_ | refine zI ?_ ?_ | exact zF0 | refine zD fun hb => ?_ | exact zC | refine zT ?_ | fail))
end
section
variable {T N : List (List D)}
theorem c_same (s : IS) (x y : List TyI) (a : Int) (hs : OkS s) (hn : s.nx <= 3000000) (hx : s.code = 0 -> TyG s.nx x) (hy : s.code = 0 -> TyG s.nx y) (lx : x.length <= 10000000) (ly : y.length <= 10000000) :
  FCon Tryz.prog 49 [.opt (fR T N s), .sl 3 (x.map TyI.enc), .sl 3 (y.map TyI.enc), .s (.int .i64 a)] (fun r o => r = .s (.bool (decide ((xy s x y a).code = 0))) /\ o = [.opt (fR T N (xy s x y a)), .un, .un, .un]) := by
 by_cases q : s.code = 0
 ·have e0 : (s.code != 0) = false := by simp [q]
  have G := hs q
  have bx := zn (l := s.l) (B := 200) (by omega) G.g.len x
  have by' := zn (l := s.l) (B := 200) (by omega) G.g.len y
  have px := uV x s.l (by omega) (by omega)
  have py := uV y s.l (by omega) (by omega)
  have gx := wR (putX s.l x)
  have gy := wR (putX s.l y)
  by_cases h1 : 200 < (putX s.l x).length
  ·rw [Xa q a (.inl h1)]
   have f1 : decide (((putX s.l x).length : Int) > 200) = true := by rw [gx]; exact decide_eq_true h1
   have cf := Yn (T := T) (N := N) s 26 a
   unfold yx at cf
   rw [if_pos q] at cf
   rw [xr] at cf ⊢
   rw [xr] at cf ⊢
   refine FI PM Tryz.func49 Tryz.ntmps49 [] rfl rfl ?_
   (have hWf := w2 @e0 @f1; repeat' (first | refine zS ?_ | refine zI ?_ ?_ | refine zK px ?_ | refine zH cf ?_ | exact zF0 | refine zD fun hb => ?_ | exact zC | refine zT ?_ | fail))
  ·have f1 : decide (((putX s.l x).length : Int) > 200) = false := by rw [gx]; exact decide_eq_false h1
   by_cases h2 : 200 < (putX s.l y).length
   ·rw [Xa q a (.inr h2)]
    have f2 : decide (((putX s.l y).length : Int) > 200) = true := by rw [gy]; exact decide_eq_true h2
    have cf := Yn (T := T) (N := N) s 26 a
    unfold yx at cf
    rw [if_pos q] at cf
    rw [xr] at cf ⊢
    rw [xr] at cf ⊢
    refine FI PM Tryz.func49 Tryz.ntmps49 [] rfl rfl ?_
    (have hWf := w3 @e0 @f1 @f2; repeat' (first | refine zS ?_ | refine zI ?_ ?_ | refine zK px ?_ | refine zK py ?_ | refine zH cf ?_ | exact zF0 | refine zD fun hb => ?_ | exact zC | refine zT ?_ | fail))
   ·have f2 : decide (((putX s.l y).length : Int) > 200) = false := by rw [gy]; exact decide_eq_false h2
    have hb : ¬ (200 < (putX s.l x).length \/ 200 < (putX s.l y).length) := by omega
    obtain ⟨n, u1, u2, u3, u4⟩ := Xb G hn (hx q) (hy q) (by omega) (by omega)
    have cu := VX T N s.nx s.code s.at_ n s.l x y _ u1 u2
    by_cases hz : (uniR s.l x y).2 = 0
    ·rw [Ua q a hb hz]
     have f3 : ((uniR s.l x y).2 != 0) = false := by simp [hz]
     have f4 : decide (s.code = 0) = true := decide_eq_true q
     rw [xr, xr]
     refine FI PM Tryz.func49 Tryz.ntmps49 [] rfl rfl ?_
     (have hWf := w5 @e0 @f1 @f2 @f3 @f4; repeat' (first | refine zS ?_ | refine zI ?_ ?_ | refine zK px ?_ | refine zK py ?_ | refine zH cu ?_ | exact zF0 | refine zD fun hb => ?_ | exact zC | refine zT ?_ | fail))
    ·rw [Ub q a hb hz]
     have f3 : ((uniR s.l x y).2 != 0) = true := by simp [hz]
     have f4 : decide ((uniR s.l x y).2 + 22 = 0) = false := decide_eq_false (by omega)
     have hi := uniR_hi s.l x y
     have cf := Yn (T := T) (N := N) ⟨(uniR s.l x y).1, s.nx, s.code, s.at_⟩ ((uniR s.l x y).2 + 22) a
     unfold yx at cf
     rw [if_pos q] at cf
     rw [xr] at cf ⊢
     rw [xr] at cf ⊢
     refine FI PM Tryz.func49 Tryz.ntmps49 [] rfl rfl ?_
     (have hWf := w5 @e0 @f1 @f2 @f3 @f4; repeat' (first | refine zS ?_ | refine zI ?_ ?_ | refine zK px ?_ | refine zK py ?_ | refine zH cu ?_ | refine zH cf ?_ | exact zF0 | refine zD fun hb => ?_ | exact zC | refine zT ?_ | fail))
 ·have e0 : (s.code != 0) = true := by simp [q]
  have e1 : decide (s.code = 0) = false := decide_eq_false q
  rw [ua q, e1, xr]
  refine FI PM Tryz.func49 Tryz.ntmps49 [] rfl rfl ?_
  (have hWf := w1 @e0; repeat' (first | refine zS ?_ | refine zI ?_ ?_ | exact zF0 | refine zD fun hb => ?_ | exact zC | refine zT ?_ | fail))
end
theorem c_putNil (l : List SubM) : FCon Tryz.prog 102 [.nil, .sl 2 (l.map SubM.enc)] (fun r _ => r = .osl 143 3 []) := by
 have h := uV [] l (by simp) (by simp [putX])
 exact h.arg [.nil, .sl 2 (l.map SubM.enc)] rfl fun j d' d h1 h2 g w u hu => by
   match j, h1, h2 with
   | 0, h1, h2 =>
    rw [<- Option.some.inj h2]; rw [<- Option.some.inj h1] at hu
    exact RA_nilS hu
   | 1, h1, h2 => rw [<- Option.some.inj h2, Option.some.inj h1]; exact hu
   | j + 2, h1, h2 => simp at h1
def vU (c : ConR) : D := if c.ok = true then .tup [.sl 3 (c.own.map TyI.enc), .sl 3 (c.arg.map TyI.enc), .s (.bool true)] else .tup [.nil, .nil, .s (.bool false)]
theorem UY (l : List TyI) (h : l = []) : XP l = .nil := if_pos h
section
variable {ts : List MType} {N : List (List D)}
theorem c_cons (T : yh ts) (s : IS) (name : ByteArray) (has : Bool) (a : Int) (hn : s.nx <= 3000000) :
  FCon Tryz.prog 101 [.opt (fR (ts.map MType.enc) N s), .s (.string name), .s (.bool has), .s (.int .i64 a)] (fun r o => r = vU (conI ts s name has a).1 /\ o = [.opt (fR (ts.map MType.enc) N (conI ts s name has a).2), .un, .un, .un]) := by
 have co := c_conOf ts name (by have := T.len; omega) (fun t ht => by have := T.cl t ht; omega) T.par (fun t ht c hc h => by have := (T.arg t ht c hc h).1.wf.pos; intro e; rw [e] at this; exact Nat.lt_irrefl _ this)
 rcases uH ts s name has a with ⟨h, e⟩ | ⟨own, arg, many, h, hh⟩
 ·have cf := Yn (T := ts.map MType.enc) (N := N) s 22 a
  rw [e]
  rw [h] at co
  unfold vU conD at *
  rw [if_neg (by simp)]
  rw [xr] at cf ⊢
  rw [xr] at cf ⊢
  refine FI PM Tryz.func101 Tryz.ntmps101 [] rfl rfl ?_
  (have hWf := f0; repeat' (first | refine zS ?_ | refine zI ?_ ?_ | refine zK co ?_ | refine zH cf ?_ | exact zF0 | refine zD fun hb => ?_ | exact zC | refine zT ?_ | fail))
 ·rw [h] at co
  have G := WS T h
  have co : FCon Tryz.prog 148 [.sl 3 (ts.map MType.enc), .s (.string name)] (fun r _ => r = .tup [.sl 3 (own.map TyI.enc), XP arg, .s (.int .i64 many), .s (.bool true)]) := co
  have el : decide ((arg.length : Int) > 0) = decide (0 < arg.length) := by rw [Bool.eq_iff_iff]; simp
  rcases hh with ⟨h1, e⟩ | ⟨h1, e⟩
  ·have cf := Yn (T := ts.map MType.enc) (N := N) s 23 a
   rw [e]
   unfold vU
   rw [if_neg (by simp)]
   rw [xr] at cf ⊢
   rw [xr] at cf ⊢
   by_cases hz : arg = []
   ·subst hz
    obtain rfl : has = true := by simpa using h1
    rw [UY _ rfl] at co
    refine FI PM Tryz.func101 Tryz.ntmps101 [] rfl rfl ?_
    (have hWf := f0; repeat' (first | refine zS ?_ | refine zI ?_ ?_ | refine zK co ?_ | refine zH cf ?_ | exact zF0 | refine zD fun hb => ?_ | exact zC | refine zT ?_ | fail))
   ·rw [ZR hz] at co
    have hp : 0 < arg.length := List.length_pos_iff.2 hz
    rw [decide_eq_true hp] at h1 el
    obtain rfl : has = false := by simpa using h1
    refine FI PM Tryz.func101 Tryz.ntmps101 [] rfl rfl ?_
    (have hWf := w1 @el; repeat' (first | refine zS ?_ | refine zI ?_ ?_ | refine zK co ?_ | refine zH cf ?_ | exact zF0 | refine zD fun hb => ?_ | exact zC | refine zT ?_ | fail))
  ·rw [e]
   obtain ⟨mn, hmn⟩ : ∃ mn : Nat, many = mn := ⟨many.toNat, by have := G.m; omega⟩
   have hm2 : mn <= 2 := by have := G.m; omega
   have hmt : many.toNat = mn := by omega
   rw [hmt]
   have f1 := yW mn s.nx own
   have f2 := yW mn s.nx arg
   have ol := G.ol; have al := G.al
   have po := uV own (xi mn s.nx) (by omega) (by omega)
   have pa := uV arg (xi mn s.nx) (by omega) (by omega)
   have pn := c_putNil (xi mn s.nx)
   unfold vU
   rw [if_pos rfl, xr, xr]
   refine FCon.iceO ?_
   by_cases hz : arg = []
   ·subst hz
    obtain rfl : has = false := h1
    rw [UY _ rfl] at co
    refine FI PM Tryz.func101 Tryz.ntmps101 [] rfl rfl ?_
    (have hWf := w1 @hmn; repeat' (first | refine zS ?_ | refine zI ?_ ?_ | refine zK co ?_ | exact zF0 | refine zD fun hb => ?_ | exact zC | refine zT ?_ | fail))
    refine xd (fun n σ => ∃ k : Nat, k <= mn /\ n = mn - k /\ σ.t 0 = .bx 900000 0 /\ σ.t 11 = .sl 3 (own.map TyI.enc) /\ σ.t 12 = .nil /\ σ.t 15 = .bs 42 2 k /\ σ.t 43 = .s (.int .i64 mn) /\ σ.t 44 = .s (.int .i64 k) /\ σ.b 900000 = some (.box [.sl 3 (ts.map MType.enc), .sl 6 N, .bs 3900000 2 s.l.length, .s (.int .i64 ((s.nx + k : Nat) : Int)), .s (.int .i64 s.code), .s (.int .i64 s.at_)]) /\ σ.b 3900000 = some (.arr 160 2 (s.l.map SubM.enc)) /\ σ.b 42 = some (.arr 160 2 ((xi k s.nx).map SubM.enc))) mn ⟨0, by omega, by omega, ?_⟩ ?_
    ·simp only [go_sem, simprocAttr]
     rfl
    ·rintro n σ ⟨k, hk, rfl, i0, i11, i12, i15, i43, i44, b9, b39, b42⟩ K' hK
     have hfl := XJ k s.nx
     by_cases hlt : k < mn
     ·have hf := XB (T := ts.map MType.enc) (N := N) ⟨s.l, s.nx + k, s.code, s.at_⟩ (show s.nx + k <= 4000000 by omega)
      rw [xr, xr] at hf
      (have hWf := w10 @i0 @i11 @i12 @i15 @i43 @i44 @b9 @b39 @b42 @hfl; repeat' (first | refine zS ?_ | refine zI ?_ ?_ | refine zH hf ?_ | exact zF0 | refine zD fun hb => ?_ | exact zC | refine zT ?_ | fail))
      refine hK (mn - (k + 1)) _ (by omega) ⟨k + 1, by omega, rfl, ?_⟩
      simp only [go_sem, simprocAttr, i0, i11, i12, i15, i43, i44, b9, b39, b42, Int.natCast_succ, Xj, List.map_append]
      exact ⟨rfl, rfl, by rw [SubM.enc_eq]; rfl⟩
     ·obtain rfl : k = mn := by omega
      (have hWf := w10 @i0 @i11 @i12 @i15 @i43 @i44 @b9 @b39 @b42 @hfl; repeat' (first | refine zS ?_ | refine zI ?_ ?_ | refine zK po ?_ | refine zK pn ?_ | exact zF0 | refine zD fun hb => ?_ | exact zC | refine zT ?_ | fail))
      all_goals first | exact xD TyI.pure _ _ _ | exact xD TyI.pure _ _ ([] : List TyI) | rfl | trace_state
   ·rw [ZR hz] at co
    have hp : 0 < arg.length := List.length_pos_iff.2 hz
    rw [decide_eq_true hp] at h1 el
    obtain rfl : has = true := h1
    refine FI PM Tryz.func101 Tryz.ntmps101 [] rfl rfl ?_
    (have hWf := w2 @hmn @el; repeat' (first | refine zS ?_ | refine zI ?_ ?_ | refine zK co ?_ | exact zF0 | refine zD fun hb => ?_ | exact zC | refine zT ?_ | fail))
    refine xd (fun n σ => ∃ k : Nat, k <= mn /\ n = mn - k /\ σ.t 0 = .bx 900000 0 /\ σ.t 11 = .sl 3 (own.map TyI.enc) /\ σ.t 12 = .sl 3 (arg.map TyI.enc) /\ σ.t 15 = .bs 42 2 k /\ σ.t 43 = .s (.int .i64 mn) /\ σ.t 44 = .s (.int .i64 k) /\ σ.b 900000 = some (.box [.sl 3 (ts.map MType.enc), .sl 6 N, .bs 3900000 2 s.l.length, .s (.int .i64 ((s.nx + k : Nat) : Int)), .s (.int .i64 s.code), .s (.int .i64 s.at_)]) /\ σ.b 3900000 = some (.arr 160 2 (s.l.map SubM.enc)) /\ σ.b 42 = some (.arr 160 2 ((xi k s.nx).map SubM.enc))) mn ⟨0, by omega, by omega, ?_⟩ ?_
    ·simp only [go_sem, simprocAttr]
     rfl
    ·rintro n σ ⟨k, hk, rfl, i0, i11, i12, i15, i43, i44, b9, b39, b42⟩ K' hK
     have hfl := XJ k s.nx
     by_cases hlt : k < mn
     ·have hf := XB (T := ts.map MType.enc) (N := N) ⟨s.l, s.nx + k, s.code, s.at_⟩ (show s.nx + k <= 4000000 by omega)
      rw [xr, xr] at hf
      (have hWf := w10 @i0 @i11 @i12 @i15 @i43 @i44 @b9 @b39 @b42 @hfl; repeat' (first | refine zS ?_ | refine zI ?_ ?_ | refine zH hf ?_ | exact zF0 | refine zD fun hb => ?_ | exact zC | refine zT ?_ | fail))
      refine hK (mn - (k + 1)) _ (by omega) ⟨k + 1, by omega, rfl, ?_⟩
      simp only [go_sem, simprocAttr, i0, i11, i12, i15, i43, i44, b9, b39, b42, Int.natCast_succ, Xj, List.map_append]
      exact ⟨rfl, rfl, by rw [SubM.enc_eq]; rfl⟩
     ·obtain rfl : k = mn := by omega
      (have hWf := w10 @i0 @i11 @i12 @i15 @i43 @i44 @b9 @b39 @b42 @hfl; repeat' (first | refine zS ?_ | refine zI ?_ ?_ | refine zK po ?_ | refine zK pa ?_ | exact zF0 | refine zD fun hb => ?_ | exact zC | refine zT ?_ | fail))
      all_goals first | exact xD TyI.pure _ _ _ | fail | rfl | trace_state
end
def genD (g : List Int) : D := if g = [] then .nil else .sl 1 (g.map iE)
theorem TyE_frz (xs : List TyI) : xN (xs.map TyI.enc) = xs.map TyI.enc := xR (fun x => by simp only [TyI.enc_eq, frzL, frz]) xs
def zx : List Bnd -> D
 | [] => .np
 | b :: e => .pt [.s (.string b.name), .sl 3 (b.ty.map TyI.enc), genD b.gen, zx e]
theorem V6 (g : List Int) : frz (genD g) = genD g := by
 unfold genD
 split
 ·rfl
 ·have : xN (g.map iE) = g.map iE := by
   rw [yX, List.map_map]; exact List.map_congr_left fun _ _ => rfl
  simp only [frz, this]
theorem WD (b : Bnd) (e : List Bnd) : zx (b :: e) = .pt [.s (.string b.name), .sl 3 (b.ty.map TyI.enc), genD b.gen, zx e] := rfl
theorem Vg : ∀ e : List Bnd, frz (zx e) = zx e
 | [] => rfl
 | b :: e => by
  rw [WD]
  simp only [frzL, frz, TyE_frz, V6, Vg e]
theorem xH (e : List Bnd) : zx e = .np \/ ∃ row, zx e = .pt row /\ frzL row = row := by
 cases e with
 | nil => exact .inl rfl
 | cons b e =>
  refine .inr ⟨_, rfl, ?_⟩
  simp only [frzL, TyE_frz, frz, V6, Vg e]
theorem con_nil {ts : List MType} {s : IS} {name : ByteArray} {has : Bool} {a : Int} (h : (conI ts s name has a).1.ok = false) : (conI ts s name has a).1.own = [] := by
 rcases uH ts s name has a with ⟨-, e⟩ | ⟨own, arg, many, _, ⟨-, e⟩ | ⟨-, e⟩⟩
 ·rw [e]
 ·rw [e]
 ·rw [e] at h; cases h
section
variable {ts : List MType} {N : List (List D)}
abbrev vK (ts : List MType) (N : List (List D)) (a : Int) (t : PT) (e : List Bnd) (s : IS) : Prop := FCon Tryz.prog 47 [.opt (fR (ts.map MType.enc) N s), pxE t, zx e, .s (.int .i64 a)] (fun r o => r = .tup [.sl 3 ((patI ts a t e s).1.map TyI.enc), zx (patI ts a t e s).2.1] /\ o = [.opt (fR (ts.map MType.enc) N (patI ts a t e s).2.2), .un, .un, .un])
theorem c_pat1 (T : yh ts) (a : Int) (b : PI) (l : List PT) (x : PT) (k : b.kind = 4) (hl : l = [x]) (ih : ∀ (e : List Bnd) (s : IS), OkS s -> s.nx + 2 * x.size <= 3000000 -> vK ts N a x e s) (e : List Bnd) (s : IS) (hs : OkS s) (hn : s.nx + 2 * (Arb.mk b l).size <= 3000000) (ho : okP x) : vK ts N a (.mk b l) e s := by
 subst hl
 have hsz : (Arb.mk b [x]).size = 1 + x.size := by rw [size_mk, sizeL_cons, sizeL_nil]; omega
 have cc := c_cons (N := N) T s b.s true a (by omega)
 have S := Zd T s b.s true a
 have C := Wr T s b.s true a
 unfold vK
 cases hc : (conI ts s b.s true a).1.ok with
 | false =>
  have h1 := Qp (ts := ts) (at_ := a) (e := e) (s := s) (a := b) (l := [x]) k (c := (conI ts s b.s true a).1) (s1 := (conI ts s b.s true a).2) rfl hc
  have ho' : (conI ts s b.s true a).1.own = [] := con_nil hc
  rw [vU, if_neg (by rw [hc]; simp)] at cc
  rw [h1, ho', zd, k]
  refine FCon.tup1 ?_
  rw [xr] at cc ⊢
  rw [xr] at cc ⊢
  rcases xH e with q | ⟨row, q, hz⟩
  all_goals
   rw [q]
   refine FI PM Tryz.func47 Tryz.ntmps47 [(10, 10, [8], [(8, 0), (8, 9)], (lin [8] [0, 1, 2, 3, 4, 5, 6, 7, 9, 8])), (15, 19, [12], [], (lin [12] [0, 1, 2, 3, 4, 5, 6, 7, 8, 9, 10, 11, 12, 13, 14, 15, 16, 17, 18]))] rfl rfl ?_
   (have hWf := f0; repeat' (first | refine zS ?_ | refine zI ?_ ?_ | refine zX cc ?_ | ((with_reducible apply xc); refine xg (cc) ?_; rintro _ _ ⟨rfl, rfl⟩) | exact zF0 | refine zD fun hb => ?_ | exact zC | refine zT ?_ | fail))
 | true =>
  have h1 := U4 (ts := ts) (at_ := a) (e := e) (s := s) (a := b) (x := x) k (c := (conI ts s b.s true a).1) (s1 := (conI ts s b.s true a).2) (s2 := (patI ts a x e (conI ts s b.s true a).2).2.2) (t := (patI ts a x e (conI ts s b.s true a).2).1) (e2 := (patI ts a x e (conI ts s b.s true a).2).2.1) rfl hc rfl
  obtain ⟨c1, c2⟩ := C.1 hc
  have c2 := c2 rfl
  have al := C.2.2.2
  rw [vU, if_pos hc] at cc
  rw [h1, zd, k]
  clear h1
  generalize conI ts s b.s true a = Q at *
  obtain ⟨c, s1⟩ := Q
  dsimp only at *
  have K := patG T a x ho e s1
  have hn1 : s1.nx + 2 * x.size <= 3000000 := by have := S.up; omega
  have os1 := S.ok hs (by omega)
  have hk := ih e s1 os1 hn1
  have Kup := K.up
  have os2 := K.st os1 (by omega)
  have sm := c_same (T := ts.map MType.enc) (N := N) (patI ts a x e s1).2.2 (patI ts a x e s1).1 c.arg a os2 (by omega) (fun hz => K.ty os1 (by omega) hz) (fun _ => c2.mono K.le) (by have := K.len; omega) (by omega)
  unfold vK at hk
  generalize patI ts a x e s1 = R at *
  obtain ⟨t, e2, s2⟩ := R
  dsimp only at *
  obtain ⟨xa, xl, rfl⟩ : ∃ xa xl, x = .mk xa xl := ⟨_, _, Arb.eta x⟩
  rw [zd] at hk
  have hxs : [Arb.mk xa xl].map pxS = [[.pt [.s (.int .i64 xa.kind), .s (.int .i64 xa.n), .s (.string xa.s), .sl 1 (xl.map pxS)]]] := by rw [List.map_cons, pxS_mk]; rfl
  rw [hxs]
  rw [xr] at cc hk sm ⊢
  rw [xr] at cc hk sm ⊢
  rcases xH e with q | ⟨row, q, hz⟩
  all_goals
   rw [q] at hk ⊢
   rcases xH e2 with q2 | ⟨row2, q2, hz2⟩
   all_goals
    rw [q2] at hk ⊢
    refine FI PM Tryz.func47 Tryz.ntmps47 [(10, 10, [8], [(8, 0), (8, 9)], (lin [8] [0, 1, 2, 3, 4, 5, 6, 7, 9, 8])), (15, 19, [12], [], (lin [12] [0, 1, 2, 3, 4, 5, 6, 7, 8, 9, 10, 11, 12, 13, 14, 15, 16, 17, 18]))] rfl rfl ?_
    (have hWf := f0; repeat' (first | refine zS ?_ | refine zI ?_ ?_ | refine zX cc ?_ | ((with_reducible apply xc); refine xg (cc) ?_; rintro _ _ ⟨rfl, rfl⟩) | refine zX hk ?_ | ((with_reducible apply xc); refine xg (hk) ?_; rintro _ _ ⟨rfl, rfl⟩) | refine zX sm ?_ | ((with_reducible apply xc); refine xg (sm) ?_; rintro _ _ ⟨rfl, rfl⟩) | exact zF0 | refine zD fun hb => ?_ | exact zC | refine zT ?_ | fail))
theorem c_pat2 (T : yh ts) (a : Int) (b : PI) (x y : PT) (k : b.kind = 5) (ihx : ∀ (e : List Bnd) (s : IS), OkS s -> s.nx + 2 * x.size <= 3000000 -> vK ts N a x e s) (ihy : ∀ (e : List Bnd) (s : IS), OkS s -> s.nx + 2 * y.size <= 3000000 -> vK ts N a y e s) (hox : okP x) (hoy : okP y) (e : List Bnd) (s : IS) (hs : OkS s) (hn : s.nx + 2 * (Arb.mk b [x, y]).size <= 3000000) : vK ts N a (.mk b [x, y]) e s := by
 have hsz : (Arb.mk b [x, y]).size = 1 + (x.size + y.size) := by rw [size_mk, sizeL_cons, sizeL_cons, sizeL_nil]; omega
 have K := patG T a x hox e s
 have h1 := U5 (ts := ts) (at_ := a) (e := e) (s := s) (a := b) (x := x) (y := y) k (t1 := (patI ts a x e s).1) (e1 := (patI ts a x e s).2.1) (s1 := (patI ts a x e s).2.2) (t2 := (patI ts a y (patI ts a x e s).2.1 (patI ts a x e s).2.2).1) (e2 := (patI ts a y (patI ts a x e s).2.1 (patI ts a x e s).2.2).2.1) (s2 := (patI ts a y (patI ts a x e s).2.1 (patI ts a x e s).2.2).2.2) rfl rfl
 have hx := ihx e s hs (by omega)
 have Kup := K.up
 have Klen := K.len
 have os1 := K.st hs (by omega)
 have hy := ihy (patI ts a x e s).2.1 (patI ts a x e s).2.2 os1 (by omega)
 have H := patG T a y hoy (patI ts a x e s).2.1 (patI ts a x e s).2.2
 have Hlen := H.len
 unfold vK at hx hy ⊢
 rw [h1, zd, k]
 clear h1 K H
 generalize patI ts a x e s = R at *
 obtain ⟨t, e1, s1⟩ := R
 dsimp only at *
 generalize patI ts a y e1 s1 = R2 at *
 obtain ⟨u, e2, s2⟩ := R2
 dsimp only at *
 have hc := VI [[zp], t, u] (by simp) (by simp only [List.flatten_cons, List.flatten_nil, List.length_append, List.length_cons, List.length_nil]; omega)
 have hfl : [[zp], t, u].flatten = zp :: (t ++ u) := by simp
 rw [hfl] at hc
 have hc : FCon Tryz.prog 100 [.sl 1 [[.sl 3 [[.s (.int .i64 0), .s (.string ⟨#[42]⟩), .s (.int .i64 2)]]], [.sl 3 (t.map TyI.enc)], [.sl 3 (u.map TyI.enc)]]] (fun r _ => r = .osl 143 3 ((zp :: (t ++ u)).map TyI.own)) := hc
 obtain ⟨xa, xl, rfl⟩ : ∃ xa xl, x = .mk xa xl := ⟨_, _, Arb.eta x⟩
 obtain ⟨ya, yl, rfl⟩ : ∃ ya yl, y = .mk ya yl := ⟨_, _, Arb.eta y⟩
 rw [zd] at hx hy
 have hxs : [Arb.mk xa xl, Arb.mk ya yl].map pxS = [[.pt [.s (.int .i64 xa.kind), .s (.int .i64 xa.n), .s (.string xa.s), .sl 1 (xl.map pxS)]], [.pt [.s (.int .i64 ya.kind), .s (.int .i64 ya.n), .s (.string ya.s), .sl 1 (yl.map pxS)]]] := by rw [List.map_cons, List.map_cons, pxS_mk, pxS_mk]; rfl
 rw [hxs]
 refine FCon.iceO ?_
 rw [xr] at hx hy ⊢
 rw [xr] at hx hy ⊢
 rcases xH e with q | ⟨row, q, hz⟩
 all_goals
  rw [q] at hx ⊢
  rcases xH e1 with q1 | ⟨row1, q1, hz1⟩
  all_goals
   rw [q1] at hx hy
   rcases xH e2 with q2 | ⟨row2, q2, hz2⟩
   all_goals
    rw [q2] at hy ⊢
    refine FI PM Tryz.func47 Tryz.ntmps47 [(10, 10, [8], [(8, 0), (8, 9)], (lin [8] [0, 1, 2, 3, 4, 5, 6, 7, 9, 8])), (15, 19, [12], [], (lin [12] [0, 1, 2, 3, 4, 5, 6, 7, 8, 9, 10, 11, 12, 13, 14, 15, 16, 17, 18]))] rfl rfl ?_
    (have hWf := f0; repeat' (first | refine zS ?_ | refine zI ?_ ?_ | refine zX hx ?_ | ((with_reducible apply xc); refine xg (hx) ?_; rintro _ _ ⟨rfl, rfl⟩) | refine zX hy ?_ | ((with_reducible apply xc); refine xg (hy) ?_; rintro _ _ ⟨rfl, rfl⟩) | refine zK hc ?_ | exact zF0 | refine zD fun hb => ?_ | exact zC | refine zT ?_ | fail))
    all_goals first | exact xD TyI.pure _ _ (zp :: (t ++ u)) | rfl
theorem c_pat (T : yh ts) (a : Int) : ∀ t : PT, okP t -> ∀ (e : List Bnd) (s : IS), OkS s -> s.nx + 2 * t.size <= 3000000 ->
  FCon Tryz.prog 47 [.opt (fR (ts.map MType.enc) N s), pxE t, zx e, .s (.int .i64 a)] (fun r o => r = .tup [.sl 3 ((patI ts a t e s).1.map TyI.enc), zx (patI ts a t e s).2.1] /\ o = [.opt (fR (ts.map MType.enc) N (patI ts a t e s).2.2), .un, .un, .un]) := fun t => by
 induction t using Arb.ind with
 | h b l ih =>
  intro ho e s hs hn
  have hsz := size_mk b l
  rcases ho.root with ⟨k, hl, -, -⟩ | ⟨k, hl, -, -⟩ | ⟨k, hl, -, -, -⟩ | ⟨k, hl, -, -⟩ | ⟨c, x, y, k, hl, -, -, -⟩ | ⟨x, k, hl, -, -⟩ | ⟨x, y, k, hl, -, -⟩ | ⟨k, hl, -, -⟩
  ·rw [U7 k, zd, k]
   have hf := XB (T := ts.map MType.enc) (N := N) s (by omega)
   rw [xr] at hf ⊢
   rw [xr] at hf ⊢
   rcases xH e with q | ⟨row, q, hz⟩
   all_goals
    rw [q]
    refine FI PM Tryz.func47 Tryz.ntmps47 [(10, 10, [8], [(8, 0), (8, 9)], (lin [8] [0, 1, 2, 3, 4, 5, 6, 7, 9, 8])), (15, 19, [12], [], (lin [12] [0, 1, 2, 3, 4, 5, 6, 7, 8, 9, 10, 11, 12, 13, 14, 15, 16, 17, 18]))] rfl rfl ?_
    (have hWf := f0; repeat' (first | refine zS ?_ | refine zI ?_ ?_ | refine zH hf ?_ | exact zF0 | refine zD fun hb => ?_ | exact zC | refine zT ?_ | fail))
  ·rw [Qr k, zd, k]
   refine FCon.iceO ?_
   have hf := XB (T := ts.map MType.enc) (N := N) s (by omega)
   rw [xr] at hf ⊢
   rw [xr] at hf ⊢
   rw [WD]
   rcases xH e with q | ⟨row, q, hz⟩
   all_goals
    rw [q]
    refine FI PM Tryz.func47 Tryz.ntmps47 [(10, 10, [8], [(8, 0), (8, 9)], (lin [8] [0, 1, 2, 3, 4, 5, 6, 7, 9, 8])), (15, 19, [12], [], (lin [12] [0, 1, 2, 3, 4, 5, 6, 7, 8, 9, 10, 11, 12, 13, 14, 15, 16, 17, 18]))] rfl rfl ?_
    (have hWf := f0; repeat' (first | refine zS ?_ | refine zI ?_ ?_ | refine zH hf ?_ | exact zF0 | refine zD fun hb => ?_ | exact zC | refine zT ?_ | fail))
    all_goals rfl
  ·have hi := ZE ⟨#[105, 110, 116]⟩
   rw [Qq k, zd, k, xr]
   refine FCon.iceO ?_
   rcases xH e with q | ⟨row, q, hz⟩
   all_goals
    rw [q]
    refine FI PM Tryz.func47 Tryz.ntmps47 [(10, 10, [8], [(8, 0), (8, 9)], (lin [8] [0, 1, 2, 3, 4, 5, 6, 7, 9, 8])), (15, 19, [12], [], (lin [12] [0, 1, 2, 3, 4, 5, 6, 7, 8, 9, 10, 11, 12, 13, 14, 15, 16, 17, 18]))] rfl rfl ?_
    (have hWf := f0; repeat' (first | refine zS ?_ | refine zI ?_ ?_ | refine zK hi ?_ | exact zF0 | refine zD fun hb => ?_ | exact zC | refine zT ?_ | fail))
    all_goals rfl
  ·subst hl
   have cc := c_cons (N := N) T s b.s false a (by omega)
   have h1 := U3 (ts := ts) (at_ := a) (e := e) (s := s) k (c := (conI ts s b.s false a).1) (s1 := (conI ts s b.s false a).2) rfl
   rw [h1, zd, k]
   cases hc : (conI ts s b.s false a).1.ok with
   | true =>
    rw [vU, if_pos hc] at cc
    rw [xr] at cc ⊢
    rw [xr] at cc ⊢
    rcases xH e with q | ⟨row, q, hz⟩
    all_goals
     rw [q]
     refine FI PM Tryz.func47 Tryz.ntmps47 [(10, 10, [8], [(8, 0), (8, 9)], (lin [8] [0, 1, 2, 3, 4, 5, 6, 7, 9, 8])), (15, 19, [12], [], (lin [12] [0, 1, 2, 3, 4, 5, 6, 7, 8, 9, 10, 11, 12, 13, 14, 15, 16, 17, 18]))] rfl rfl ?_
     (have hWf := f0; repeat' (first | refine zS ?_ | refine zI ?_ ?_ | refine zX cc ?_ | ((with_reducible apply xc); refine xg (cc) ?_; rintro _ _ ⟨rfl, rfl⟩) | exact zF0 | refine zD fun hb => ?_ | exact zC | refine zT ?_ | fail))
   | false =>
    have ho' : (conI ts s b.s false a).1.own = [] := con_nil hc
    rw [vU, if_neg (by rw [hc]; simp)] at cc
    rw [ho']
    refine FCon.tup1 ?_
    rw [xr] at cc ⊢
    rw [xr] at cc ⊢
    rcases xH e with q | ⟨row, q, hz⟩
    all_goals
     rw [q]
     refine FI PM Tryz.func47 Tryz.ntmps47 [(10, 10, [8], [(8, 0), (8, 9)], (lin [8] [0, 1, 2, 3, 4, 5, 6, 7, 9, 8])), (15, 19, [12], [], (lin [12] [0, 1, 2, 3, 4, 5, 6, 7, 8, 9, 10, 11, 12, 13, 14, 15, 16, 17, 18]))] rfl rfl ?_
     (have hWf := f0; repeat' (first | refine zS ?_ | refine zI ?_ ?_ | refine zX cc ?_ | ((with_reducible apply xc); refine xg (cc) ?_; rintro _ _ ⟨rfl, rfl⟩) | exact zF0 | refine zD fun hb => ?_ | exact zC | refine zT ?_ | fail))
  ·exact c_pat1 T a b l _ k hl (fun e s hs hn => ih _ (by rw [hl]; exact List.mem_singleton.2 rfl) (ho.kid _ (by rw [hl]; exact List.mem_singleton.2 rfl)) e s hs hn) e s hs hn (ho.kid _ (by rw [hl]; exact List.mem_singleton.2 rfl))
  ·exact c_pat1 T a b l _ k hl (fun e s hs hn => ih _ (by rw [hl]; exact List.mem_singleton.2 rfl) (ho.kid _ (by rw [hl]; exact List.mem_singleton.2 rfl)) e s hs hn) e s hs hn (ho.kid _ (by rw [hl]; exact List.mem_singleton.2 rfl))
  ·subst hl
   exact c_pat2 T a b x y k (ih x (by simp) (ho.kid x (by simp))) (ih y (by simp) (ho.kid y (by simp))) (ho.kid x (by simp)) (ho.kid y (by simp)) e s hs hn
  ·have hi := ZE ⟨#[117, 110, 105, 116]⟩
   rw [U6 k, zd, k, xr]
   refine FCon.iceO ?_
   rcases xH e with q | ⟨row, q, hz⟩
   all_goals
    rw [q]
    refine FI PM Tryz.func47 Tryz.ntmps47 [(10, 10, [8], [(8, 0), (8, 9)], (lin [8] [0, 1, 2, 3, 4, 5, 6, 7, 9, 8])), (15, 19, [12], [], (lin [12] [0, 1, 2, 3, 4, 5, 6, 7, 8, 9, 10, 11, 12, 13, 14, 15, 16, 17, 18]))] rfl rfl ?_
    (have hWf := f0; repeat' (first | refine zS ?_ | refine zI ?_ ?_ | refine zK hi ?_ | exact zF0 | refine zD fun hb => ?_ | exact zC | refine zT ?_ | fail))
    all_goals rfl
end
noncomputable def xV (ts : List MType) : List PT -> Option (List TyI) -> IS -> List TyI × IS
 | [], f, s => (f.getD [], s)
 | q :: r, none, s => if (patI ts 0 q [] s).2.2.code ≠ 0 then ([], (patI ts 0 q [] s).2.2) else xV ts r (some (patI ts 0 q [] s).1) (patI ts 0 q [] s).2.2
 | q :: r, some t, s => if (patI ts 0 q [] s).2.2.code ≠ 0 then (t, (patI ts 0 q [] s).2.2) else
   if (xy (patI ts 0 q [] s).2.2 t (patI ts 0 q [] s).1 0).code ≠ 0 then (t, xy (patI ts 0 q [] s).2.2 t (patI ts 0 q [] s).1 0) else xV ts r (some t) (xy (patI ts 0 q [] s).2.2 t (patI ts 0 q [] s).1 0)
noncomputable def yf (ts : List MType) : List PT -> Option (List TyI) -> IS -> List TyI × IS
 | [], f, s => (f.getD [], s)
 | q :: r, none, s => yf ts r (some (patS ts 0 q [] s).1) (patS ts 0 q [] s).2.2
 | q :: r, some t, s => yf ts r (some t) (yr (patS ts 0 q [] s).2.2 t (patS ts 0 q [] s).1 0)
def yK (s : IS) (t : List TyI) : List TyI × Int := if s.code ≠ 0 then ([], s.code) else if 200 < (putX s.l t).length then ([], 26) else (x0 (putX s.l t), 0)
theorem wZ {ts : List MType} : ∀ (l : List PT) (f : Option (List TyI)) (s : IS), s.code ≠ 0 -> (yf ts l f s).2 = s
 | [], f, s, _ => rfl
 | q :: r, none, s, h => by rw [yf, yp h]; exact wZ r _ s h
 | q :: r, some t, s, h => by rw [yf, yp h]; dsimp only; rw [ub h]; exact wZ r _ s h
structure PatsG (ts : List MType) (l : List PT) (f : Option (List TyI)) (s : IS) : Prop where
 ok : OkS s -> s.nx + 2 * sizeL l <= 3000000 -> (∀ t, f = some t -> s.code = 0 -> TyG s.nx t) -> OkS (xV ts l f s).2
 up : (xV ts l f s).2.nx <= s.nx + 2 * sizeL l
 le : s.nx <= (xV ts l f s).2.nx
 ty : OkS s -> s.nx + 2 * sizeL l <= 3000000 -> (f = none -> l ≠ []) -> (∀ t, f = some t -> s.code = 0 -> TyG s.nx t) -> (xV ts l f s).2.code = 0 -> TyG (xV ts l f s).2.nx (xV ts l f s).1
 len : (∀ t, f = some t -> t.length <= 1800) -> (∀ q ∈ l, q.size <= 600) -> (xV ts l f s).1.length <= 1800
 rl : ∀ s', Rl s s' -> OkS s -> s.nx + 2 * sizeL l <= 3000000 -> (∀ t, f = some t -> s.code = 0 -> TyG s.nx t) -> Rl (xV ts l f s).2 (yf ts l f s').2 /\ ((xV ts l f s).2.code = 0 -> (xV ts l f s).1 = (yf ts l f s').1)
theorem patsG {ts : List MType} (T : yh ts) : ∀ (l : List PT), (∀ q ∈ l, okP q) -> ∀ (f : Option (List TyI)) (s : IS), PatsG ts l f s
 | [], _, f, s => ⟨fun h _ _ => h, Nat.le_add_right _ _, Nat.le_refl _, fun _ _ h1 h2 hz => by
   cases f with
   | none => exact absurd rfl (h1 rfl)
   | some t => exact h2 t rfl hz, fun h _ => by
   cases f with
   | none => exact Nat.zero_le _
   | some t => exact h t rfl, fun s' hr _ _ _ => ⟨hr, fun _ => rfl⟩⟩
 | q :: r, ho, f, s => by
  have K := patG T 0 q (ho q (by simp)) [] s
  have IH := patsG T r (fun x hx => ho x (List.mem_cons_of_mem _ hx))
  have hsz : sizeL (q :: r) = q.size + sizeL r := sizeL_cons _ _
  have Kst := K.st; have Kle := K.le; have Kup := K.up; have Kcode := K.code; have Klen := K.len; have Kty := K.ty; have Krl := K.rl
  clear K
  cases f with
  | none =>
   have IH := IH (some (patI ts 0 q [] s).1) (patI ts 0 q [] s).2.2
   have hI : ∀ Q, patI ts 0 q [] s = Q -> xV ts (q :: r) none s = if Q.2.2.code ≠ 0 then ([], Q.2.2) else xV ts r (some Q.1) Q.2.2 := fun Q e => by rw [xV, e]
   have hS : ∀ s' : IS, yf ts (q :: r) none s' = yf ts r (some (patS ts 0 q [] s').1) (patS ts 0 q [] s').2.2 := fun s' => by rw [yf]
   generalize hq : patI ts 0 q [] s = Q at *
   obtain ⟨t, e1, s1⟩ := Q
   dsimp only at *
   have hI := hI _ rfl
   dsimp only at hI
   by_cases hc : s1.code ≠ 0
   ·rw [if_pos hc] at hI
    refine ⟨?_, ?_, ?_, ?_, ?_, ?_⟩
    all_goals rw [hI]
    ·exact fun h1 h2 _ => Kst h1 (by omega)
    ·show s1.nx <= _; omega
    ·exact Kle
    ·exact fun _ _ _ _ hz => absurd hz hc
    ·exact fun _ _ => Nat.zero_le _
    ·intro s' hr hs hn _
     refine ⟨?_, fun hz => absurd hz hc⟩
     have R := Krl s' hr hs (by omega)
     rw [hS, wZ _ _ _ (by rw [<- R.1.c]; exact hc)]
     exact R.1
   ·rw [if_neg hc] at hI
    have hc : s1.code = 0 := by omega
    have tG : OkS s -> s.nx + 2 * sizeL (q :: r) <= 3000000 -> ∀ t', some t = some t' -> s1.code = 0 -> TyG s1.nx t' := fun h1 h2 t' e hz => by
     injection e with e; subst e; exact Kty h1 (by omega) hz
    refine ⟨?_, ?_, ?_, ?_, ?_, ?_⟩
    all_goals rw [hI]
    ·exact fun h1 h2 _ => IH.ok (Kst h1 (by omega)) (by omega) (tG h1 h2)
    ·have := IH.up; omega
    ·have := IH.le; omega
    ·exact fun h1 h2 _ _ hz => IH.ty (Kst h1 (by omega)) (by omega) nofun (tG h1 h2) hz
    ·refine fun _ h2 => IH.len (fun t' e => ?_) fun x hx => h2 x (List.mem_cons_of_mem _ hx)
     injection e with e; subst e; have := h2 q (by simp); omega
    ·intro s' hr hs hn _
     have R := Krl s' hr hs (by omega)
     have R2 := R.2 hc
     rw [hS, <- R2.1]
     exact IH.rl _ R.1 (Kst hs (by omega)) (by omega) (tG hs hn)
  | some t0 =>
   have IH := IH (some t0) (xy (patI ts 0 q [] s).2.2 t0 (patI ts 0 q [] s).1 0)
   have hI : ∀ Q, patI ts 0 q [] s = Q -> xV ts (q :: r) (some t0) s = if Q.2.2.code ≠ 0 then (t0, Q.2.2) else if (xy Q.2.2 t0 Q.1 0).code ≠ 0 then (t0, xy Q.2.2 t0 Q.1 0) else xV ts r (some t0) (xy Q.2.2 t0 Q.1 0) := fun Q e => by rw [xV, e]
   have hS : ∀ s' : IS, yf ts (q :: r) (some t0) s' = yf ts r (some t0) (yr (patS ts 0 q [] s').2.2 t0 (patS ts 0 q [] s').1 0) := fun s' => by rw [yf]
   generalize hq : patI ts 0 q [] s = Q at *
   obtain ⟨t, e1, s1⟩ := Q
   dsimp only at *
   have hI := hI _ rfl
   dsimp only at hI
   have hnx : (xy s1 t0 t 0).nx = s1.nx := vF _ _ _ _
   have sz : s1.code = 0 -> s.code = 0 := fun hz => by
    rcases Classical.em (s.code = 0) with w | w
    ·exact w
    ·rw [(Kcode w).1] at hz; exact absurd hz w
   by_cases hc : s1.code ≠ 0
   ·rw [if_pos hc] at hI
    refine ⟨?_, ?_, ?_, ?_, ?_, ?_⟩
    all_goals rw [hI]
    ·exact fun h1 h2 _ => Kst h1 (by omega)
    ·show s1.nx <= _; omega
    ·exact Kle
    ·exact fun _ _ _ _ hz => absurd hz hc
    ·exact fun h1 _ => h1 t0 rfl
    ·intro s' hr hs hn _
     refine ⟨?_, fun hz => absurd hz hc⟩
     have R := Krl s' hr hs (by omega)
     rw [hS, ub (by rw [<- R.1.c]; exact hc), wZ _ _ _ (by rw [<- R.1.c]; exact hc)]
     exact R.1
   ·rw [if_neg hc] at hI
    have hc : s1.code = 0 := by omega
    have P : OkS s -> s.nx + 2 * sizeL (q :: r) <= 3000000 -> TyG s.nx t0 -> Stp s1 (xy s1 t0 t 0) 0 := fun h1 h2 h3 => X5 0 (Kst h1 (by omega)) (by omega) (fun _ => h3.mono Kle) fun hz => Kty h1 (by omega) hz
    by_cases hc2 : (xy s1 t0 t 0).code ≠ 0
    ·rw [if_pos hc2] at hI
     refine ⟨?_, ?_, ?_, ?_, ?_, ?_⟩
     all_goals rw [hI]
     ·exact fun h1 h2 _ hz => absurd hz hc2
     ·show (xy s1 t0 t 0).nx <= _; omega
     ·show _ <= (xy s1 t0 t 0).nx; omega
     ·exact fun _ _ _ _ hz => absurd hz hc2
     ·exact fun h1 _ => h1 t0 rfl
     ·intro s' hr hs hn hf
      have R := Krl s' hr hs (by omega)
      have h3 := hf t0 rfl (sz hc)
      have R2 := Zb R.1 (Kst hs (by omega)) (by omega) (x := t0) (y := t) (x' := t0) (y' := (patS ts 0 q [] s').1) (fun _ => ⟨h3.mono Kle, rfl⟩) (fun hz => ⟨Kty hs (by omega) hz, (R.2 hz).1⟩) 0
      refine ⟨?_, fun hz => absurd hz hc2⟩
      rw [hS, wZ _ _ _ (by rw [<- R2.c]; exact hc2)]
      exact R2
    ·rw [if_neg hc2] at hI
     have hc2 : (xy s1 t0 t 0).code = 0 := by omega
     have tG : TyG s.nx t0 -> ∀ t', some t0 = some t' -> (xy s1 t0 t 0).code = 0 -> TyG (xy s1 t0 t 0).nx t' := fun h t' e _ => by
      injection e with e; subst e; rw [hnx]; exact h.mono Kle
     have ok2 : OkS s -> s.nx + 2 * sizeL (q :: r) <= 3000000 -> TyG s.nx t0 -> OkS (xy s1 t0 t 0) := fun h1 h2 h3 => (P h1 h2 h3).ok (Kst h1 (by omega)) (by omega)
     refine ⟨?_, ?_, ?_, ?_, ?_, ?_⟩
     all_goals rw [hI]
     ·exact fun h1 h2 h4 => IH.ok (ok2 h1 h2 (h4 t0 rfl (sz hc))) (by omega) (tG (h4 t0 rfl (sz hc)))
     ·have := IH.up; omega
     ·have := IH.le; omega
     ·exact fun h1 h2 _ h4 hz => IH.ty (ok2 h1 h2 (h4 t0 rfl (sz hc))) (by omega) nofun (tG (h4 t0 rfl (sz hc))) hz
     ·exact fun h1 h2 => IH.len h1 fun x hx => h2 x (List.mem_cons_of_mem _ hx)
     ·intro s' hr hs hn hf
      have R := Krl s' hr hs (by omega)
      have h3 := hf t0 rfl (sz hc)
      have R2 := Zb R.1 (Kst hs (by omega)) (by omega) (x := t0) (y := t) (x' := t0) (y' := (patS ts 0 q [] s').1) (fun _ => ⟨h3.mono Kle, rfl⟩) (fun hz => ⟨Kty hs (by omega) hz, (R.2 hz).1⟩) 0
      rw [hS]
      exact IH.rl _ R2 (ok2 hs hn h3) (by omega) (tG h3)
theorem itemM_v {x : TyI} (h : xF x = true) (hv : varB x = true) : 0 <= x.v /\ x.ar = 0 := by
 unfold varB at hv
 unfold xF at h
 rw [if_pos hv] at h
 simp only [Bool.and_eq_true, beq_iff_eq, decide_eq_true_eq] at h
 exact ⟨h.1.1, h.2⟩
theorem tyOkM_G {xs : List TyI} (h : zq xs = true) : wfV xs /\ xs.length <= 200 /\ ∀ x ∈ xs, xF x = true := by
 unfold zq yJ at h
 simp only [Bool.and_eq_true, decide_eq_true_eq, List.all_eq_true] at h
 exact ⟨⟨(Qz xs).2 h.2.2, fun x hx => XL (h.2.1 x hx), fun x hx hv => (itemM_v (h.2.1 x hx) hv).2⟩, h.1, h.2.1⟩
theorem YK {p : MProgram} (h : x4 p = true) : yh p.types := by
 unfold x4 at h
 simp only [Bool.and_eq_true, decide_eq_true_eq, List.all_eq_true] at h
 obtain ⟨⟨⟨⟨_, hl⟩, ht⟩, _⟩, _⟩ := h
 have ht' : ∀ t ∈ p.types, xU t.name = true /\ 0 <= t.params /\ t.params <= 2 /\ t.cons.length <= 8 /\ ∀ c ∈ t.cons, xX t.params c = true := fun t hx => by
  have := ht t hx
  unfold yC at this
  simp only [Bool.and_eq_true, decide_eq_true_eq, List.all_eq_true] at this
  exact ⟨this.1.1.1.1.1, this.1.1.1.1.2, this.1.1.1.2, this.1.2, this.2⟩
 have hc : ∀ t ∈ p.types, ∀ c ∈ t.cons, (c.has = true -> TyG t.params.toNat c.arg /\ c.arg.length <= 200) /\ (c.has = false -> c.arg = []) := fun t hx c hc => by
  obtain ⟨_, p0, _, _, q⟩ := ht' t hx
  have := q c hc
  unfold xX at this
  rw [Bool.and_eq_true] at this
  have h2 := this.2
  constructor
  ·intro hh
   rw [if_pos hh, Bool.and_eq_true, List.all_eq_true] at h2
   obtain ⟨g1, g2, g3⟩ := tyOkM_G h2.1
   refine ⟨⟨g1, fun x hx => ⟨fun hv => ?_, fun _ => g3 x hx⟩⟩, g2⟩
   have := h2.2 x hx
   have hv' : x.name.toList.isEmpty = true := hv
   rw [hv', Bool.true_and] at this
   have : ¬ t.params <= x.v := by simpa using this
   exact ⟨(itemM_v (g3 x hx) hv).1, by omega⟩
  ·intro hh
   rw [if_neg (by rw [hh]; simp)] at h2
   exact List.length_eq_zero_iff.1 (of_decide_eq_true h2)
 exact ⟨hl, fun t h => (ht' t h).1, fun t h => ⟨(ht' t h).2.1, (ht' t h).2.2.1⟩, fun t h => (ht' t h).2.2.2.1, fun t h c hx => (hc t h c hx).1, fun t h c hx => (hc t h c hx).2⟩
structure TreeOf (nodes : List DPNode) (t : PT) : Prop where
 at0 : At PI.node nodes 0 t
 lay : nodes = Arb.lay PI.node 0 t
 ok : okP t
 sz : t.size <= 600
theorem tree_ex {nodes : List DPNode} (h : patM nodes = true) : ∃ t, TreeOf nodes t := by
 obtain ⟨t, h1, h2, h3⟩ := ptree_of h
 exact ⟨t, by rw [h1]; exact At.zero t, h1, h2, h3⟩
open Classical in
noncomputable def xz (q : MPat) : PT := if h : ∃ t, TreeOf q.nodes t then Classical.choose h else .mk ⟨1, 0, ⟨#[]⟩⟩ []
theorem vI {q : MPat} (h : patM q.nodes = true) : TreeOf q.nodes (xz q) := by
 have := tree_ex h
 unfold xz
 rw [dif_pos this]
 exact Classical.choose_spec this
structure Yg (p : MProgram) (l : List MPat) : Prop where
 prog : x4 p = true
 chk : AllI p.types
 ne : l ≠ []
 pats : ∀ q ∈ l, patM q.nodes = true
theorem Wx {ts : List MType} {q : PT} {r : List PT} {s s1 : IS} {ty : List TyI} {e1 : List Bnd} (e : patI ts 0 q [] s = (ty, e1, s1)) : xV ts (q :: r) none s = if s1.code ≠ 0 then ([], s1) else xV ts r (some ty) s1 := by rw [xV, e]
theorem Wy {ts : List MType} {q : PT} {r : List PT} {s s1 : IS} {t0 ty : List TyI} {e1 : List Bnd} (e : patI ts 0 q [] s = (ty, e1, s1)) : xV ts (q :: r) (some t0) s = if s1.code ≠ 0 then (t0, s1) else if (xy s1 t0 ty 0).code ≠ 0 then (t0, xy s1 t0 ty 0) else xV ts r (some t0) (xy s1 t0 ty 0) := by rw [xV, e]
def is0 : IS := ⟨[], 0, 0, 0⟩
theorem vz : OkS is0 := fun _ => ⟨GoodL.nil _, by show 0 + unb (rngV 0) [] <= 0; exact Nat.le_refl _⟩
noncomputable def wW (p : MProgram) (l : List MPat) : List TyI × Int := yK (xV p.types (l.map xz) none is0).2 (xV p.types (l.map xz) none is0).1
theorem Z7 {l : List MPat} (h : ∀ q ∈ l, patM q.nodes = true) : ∀ t ∈ l.map xz, okP t := fun t ht => by
 obtain ⟨q, hq, rfl⟩ := List.mem_map.1 ht; exact (vI (h q hq)).ok
theorem treeP_len {q : MPat} (h : patM q.nodes = true) : (xz q).size = q.nodes.length := by
 have := congrArg List.length (vI h).lay
 rw [Arb.lay_len] at this
 exact this.symm
theorem Z8 {l : List MPat} (h : ∀ q ∈ l, patM q.nodes = true) : sizeL (l.map xz) <= cnts (fun q : MPat => q.nodes.length) l := by
 induction l with
 | nil => exact Nat.zero_le _
 | cons q l ih =>
  have := treeP_len (h q (by simp))
  have := ih fun x hx => h x (List.mem_cons_of_mem _ hx)
  rw [List.map_cons, sizeL_cons]; show _ <= q.nodes.length + cnts _ l; omega
end
section
open Go.RowKit
theorem Wg (xs : List TyI) (hne : 0 < xs.length) (hl : xs.length <= 1000000000) : FCon Tryz.prog 153 [.sl 3 (xs.map TyI.enc)] (fun r _ => r = .osl 143 3 (xs.map TyI.own)) := by
 have he : (xs.map TyI.enc).isEmpty = false := by cases xs with | nil => simp at hne | cons _ _ => rfl
 refine FI PM Tryz.func153 Tryz.ntmps153 [] rfl rfl ?_
 (have hWf := w1 @he; repeat' (first | refine zS ?_ | refine zI ?_ ?_ | exact zF0 | refine zD fun hb => ?_ | exact zC | refine zT ?_ | fail))
 all_goals exact ⟨_, rfl⟩
theorem UG : ∀ (l : List Int) (v : Int), v ∈ l -> fidx (fun x => v == x) l = (idxN l v : Nat)
 | [], v, h => by cases h
 | y :: l, v, h => by
  by_cases e : y = v
  ·subst e
   rw [fidx, if_pos (by simp), idxN, if_pos rfl]; rfl
  ·have hm : v ∈ l := by
    rcases List.mem_cons.1 h with q | q
    ·exact absurd q.symm e
    ·exact q
   have ih := UG l v hm
   have e' : ¬ (v == y) = true := by simp; exact fun q => e q.symm
   rw [fidx, if_neg e', ih, if_neg (by omega), idxN, if_neg e]; rfl
def mixC (xs : List TyI) (k : Nat) : List TyI := (x0 xs).take k ++ xs.drop k
theorem canonM_len' (xs : List TyI) : (x0 xs).length = xs.length := by simp [x0]
theorem ZQ (xs : List TyI) {k : Nat} (h : k <= xs.length) : (mixC xs k).length = xs.length := by
 unfold mixC; rw [List.length_append, List.length_take, List.length_drop, canonM_len']; omega
theorem mixC_zero (xs : List TyI) : mixC xs 0 = xs := by simp [mixC]
theorem mixC_all (xs : List TyI) : mixC xs xs.length = x0 xs := by
 unfold mixC; rw [List.drop_length, List.append_nil, <- canonM_len', List.take_length]
theorem mixC_at (xs : List TyI) {k : Nat} (h : k < xs.length) : (mixC xs k)[k]'(by rw [ZQ xs (by omega)]; exact h) = xs[k] := by
 have h1 : ((x0 xs).take k).length = k := by rw [List.length_take, canonM_len']; omega
 have e : (mixC xs k)[k]? = some xs[k] := by
  unfold mixC
  rw [List.getElem?_append_right (by omega), h1, Nat.sub_self, List.getElem?_drop, Nat.add_zero, List.getElem?_eq_getElem h]
 exact (List.getElem?_eq_some_iff.1 e).2
theorem Qh (xs : List TyI) {k : Nat} (h : k < xs.length) : (mixC xs k).set k (x9 (xm xs) xs[k]) = mixC xs (k + 1) := by
 have h1 : ((x0 xs).take k).length = k := by rw [List.length_take, canonM_len']; omega
 have h2 : (x0 xs)[k]'(by rw [canonM_len']; exact h) = x9 (xm xs) xs[k] := by simp [x0]
 unfold mixC
 rw [List.set_append_right _ _ (by omega), h1, Nat.sub_self, List.drop_eq_getElem_cons h, List.set_cons_zero, List.take_succ_eq_append_getElem (by rw [canonM_len']; exact h), h2]
 simp
theorem mixC_same (xs : List TyI) {k : Nat} (h : k < xs.length) (hb : varB xs[k] = false) : mixC xs (k + 1) = mixC xs k := by
 rw [<- Qh xs h]
 have e : x9 (xm xs) xs[k] = xs[k] := by unfold x9; rw [if_neg (by rw [hb]; simp)]
 rw [e]
 have e2 : (mixC xs k).set k ((mixC xs k)[k]'(by rw [ZQ xs (by omega)]; exact h)) = mixC xs k := List.set_getElem_self _
 rw [mixC_at xs h] at e2
 exact e2
theorem c_canon (xs : List TyI) (hne : 0 < xs.length) (hl : xs.length <= 1000000) : FCon Tryz.prog 105 [.sl 3 (xs.map TyI.enc)] (fun r _ => r = .ag [.osl 143 3 ((x0 xs).map TyI.own)]) := by
 have hvl := varsM_len' xs
 refine FI PM Tryz.func105 Tryz.ntmps105 [] rfl rfl ?_
 (have hWf := f0; repeat' (first | refine zS ?_ | refine zI ?_ ?_ | ((with_reducible apply xc); refine zG (uh xs (by omega)) ?_) | refine zU (uh xs (by omega)) ?_ | ((with_reducible apply xc); refine zG (Wg xs hne (by omega)) ?_) | refine zU (Wg xs hne (by omega)) ?_ | exact zF0 | refine zD fun hb => ?_ | exact zC | refine zT ?_ | fail))
 refine xd (fun n σ => ∃ k : Nat, k <= xs.length /\ n = xs.length - k /\ σ.t 2 = .bx 2 0 /\ σ.b 2 = some (.box [.nil]) /\ σ.t 3 = .bs 1008 1 (xm xs).length /\ σ.b 1008 = some (.arr 3 1 ((xm xs).map iE)) /\ σ.t 4 = .bs 1010 3 xs.length /\ σ.b 1010 = some (.arr 143 3 ((mixC xs k).map TyI.own)) /\ σ.t 11 = .bs 1010 3 xs.length /\ σ.t 12 = .s (.int .i64 xs.length) /\ σ.t 13 = .s (.int .i64 k)) xs.length ⟨0, by omega, by omega, ?_⟩ ?_
 ·simp only [go_sem, simprocAttr, Int.natCast_zero, mixC_zero]
  all_goals trace_state
 ·rintro n σ ⟨k, hk, rfl, h2, hb2, h3, hb3, h4, hb4, h11, h12, h13⟩ K' hK
  by_cases hlt : k < xs.length
  ·have hml := ZQ xs hk
   have hx := xb TyI.own (mixC xs k) k (by omega)
   rw [mixC_at xs hlt] at hx
   have he := TyI.own_eq xs[k]
   have hml' : ((mixC xs k).map TyI.own).length = xs.length := by simp [hml]
   cases hvb : varB xs[k] with
   | false =>
    have e1 : (xs[k].name.toList == []) = false := by unfold varB at hvb; simpa using hvb
    have hsame := mixC_same xs hlt hvb
    (have hWf := w10 @h2 @hb2 @h3 @hb3 @h4 @hb4 @h11 @h12 @h13 (ai @hx <| ai @he <| ai @hml' <| ai @lit0 <| @e1); repeat' (first | refine zS ?_ | refine zI ?_ ?_ | exact zF0 | refine zD fun hb => ?_ | exact zC | refine zT ?_ | fail))
    refine hK (xs.length - (k + 1)) _ (by omega) ⟨k + 1, by omega, rfl, ?_⟩
    simp only [go_sem, simprocAttr, h2, hb2, h3, hb3, h4, hb4, h11, h12, h13, Int.natCast_succ, hsame]
    all_goals trace_state
   | true =>
    have e1 : (xs[k].name.toList == []) = true := by unfold varB at hvb; simpa using hvb
    have hm : xs[k].v ∈ xm xs := (varsM_mem' _ _).2 ⟨_, List.getElem_mem hlt, hvb, rfl⟩
    have hfi := UG _ _ hm
    have hci := idxN_le (xm xs) xs[k].v
    (have hWf := w10 @h2 @hb2 @h3 @hb3 @h4 @hb4 @h11 @h12 @h13 (ai @hx <| ai @he <| ai @hml' <| ai @lit0 <| ai @e1 <| @hfi); repeat' (first | refine zS ?_ | refine zI ?_ ?_ | refine zK (Zm (xm xs) xs[k].v) ?_ | exact zF0 | refine zD fun hb => ?_ | exact zC | refine zT ?_ | fail))
    refine hK (xs.length - (k + 1)) _ (by omega) ⟨k + 1, by omega, rfl, ?_⟩
    simp only [go_sem, simprocAttr, h2, hb2, h3, hb3, h4, hb4, h11, h12, h13, Int.natCast_succ]
    exact congrArg (Ob.arr _ 3) (by rw [<- Qh xs hlt, List.map_set]; congr 1; unfold x9; rw [if_pos hvb]; rfl)
  ·obtain rfl : k = xs.length := by omega
   rw [mixC_all] at hb4
   have hcl := canonM_len' xs
   have hcl' : ((x0 xs).map TyI.own).length = xs.length := by simp [hcl]
   (have hWf := w10 @h2 @hb2 @h3 @hb3 @h4 @hb4 @h11 @h12 @h13 (ai @hcl <| @hcl'); repeat' (first | refine zS ?_ | refine zI ?_ ?_ | exact zF0 | refine zD fun hb => ?_ | exact zC | refine zT ?_ | fail))
   all_goals trace_state
end
end Go.Proofs.YtmnokalddmlogaaGreat
