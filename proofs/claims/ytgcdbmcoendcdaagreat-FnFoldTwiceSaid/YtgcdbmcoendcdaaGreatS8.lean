/- Parts of the proof, laid together: HPLay, HParO, HParE, HParF, HParU, HParL, HParC, HParM, HParX, HNamed, HParT. -/
import Derived.BigQuiet
import Derived.Deep.LoopGhost
import Derived.Deep.QuietTactic
import Derived.Deep.RegionLaw
import Derived.Deep.RegionWith
import Derived.Deep.Slices
import Derived.Laws.Cover3
import Derived.Laws.EntriesVeiled
import Derived.Laws.IdiomStrings
import Derived.Laws.StructEq
import Derived.Lib.AppendStr
import Derived.Lib.Hide
import Derived.Lib.SlBytesConst
import Derived.ProofKit
import Derived.Test.YtgcdbmcoendcdaaGreatProg
import Derived.WalkKit
import Derived.Test.YtgcdbmcoendcdaaGreatS7
set_option maxRecDepth 100000
set_option maxHeartbeats 8000000
set_option linter.unusedVariables false
set_option linter.unusedSimpArgs false
namespace Go.Proofs.YtgcdbmcoendcdaaGreat
open Go.RowKit Arb
def zV (rows : List (List D)) (l : List PT) : List (List D) := rows ++ [.s (.int .i64 0), .s (.int .i64 0), .s (.string ⟨#[]⟩), .nil] :: (layL PI.node (rows.length + 1) l).map DPNode.own
theorem YT (rows : List (List D)) (l : List PT) : (zV rows l).length = rows.length + 1 + sizeL l := by
 unfold zV; rw [List.length_append, List.length_cons, List.length_map, layL_len]; omega
theorem playD_nil (rows : List (List D)) : zV rows [] = rows ++ [[.s (.int .i64 0), .s (.int .i64 0), .s (.string ⟨#[]⟩), .nil]] := rfl
theorem xaM (rows : List (List D)) (l : List PT) (k : Nat) (h : k < l.length) : zV rows (l.take (k + 1)) = zV rows (l.take k) ++ (Arb.lay PI.node (zV rows (l.take k)).length l[k]).map DPNode.own := by
 rw [YT]
 unfold zV
 rw [List.take_succ_eq_append_getElem h, layL_app, layL_cons, layL_nil, List.append_nil, List.map_append, List.append_assoc, List.cons_append]
theorem playD_get (rows : List (List D)) (l : List PT) : (zV rows l).getD rows.length [] = [.s (.int .i64 0), .s (.int .i64 0), .s (.string ⟨#[]⟩), .nil] := by
 unfold zV
 rw [List.getD_eq_getElem?_getD, List.getElem?_append_right (Nat.le_refl _), Nat.sub_self]; rfl
theorem playD_set (rows : List (List D)) (a : PI) (l : List PT) : (zV rows l).set rows.length [.s (.int .i64 a.kind), .s (.int .i64 a.n), .s (.string a.s), .osl 3 1 ((idxs (rows.length + 1) l).map iE)] = rows ++ (Arb.lay PI.node rows.length (.mk a l)).map DPNode.own := by
 unfold zV
 rw [List.set_append_right _ _ (Nat.le_refl _), Nat.sub_self, List.set_cons_zero, lay_mk, List.map_cons]; rfl
theorem QU (l : List PT) (k : Nat) : sizeL (l.take k) <= sizeL l := by
 have e := congrArg sizeL (List.take_append_drop k l)
 rw [sizeL_app] at e
 omega
theorem Qa {l : List PT} {k : Nat} (h : k < l.length) : sizeL (l.take k) + l[k].size <= sizeL l := by
 have e := congrArg sizeL (List.take_append_drop k l)
 rw [sizeL_app, List.drop_eq_getElem_cons h, sizeL_cons] at e
 omega
theorem xaz (b : Nat) (l : List PT) (k : Nat) (h : k < l.length) : idxs b (l.take (k + 1)) = idxs b (l.take k) ++ [((b + sizeL (l.take k) : Nat) : Int)] := by
 rw [List.take_succ_eq_append_getElem h, idxs_app]; rfl
theorem c_l03PLay : ∀ t : PT, ∀ rows : List (List D), rows.length + t.size <= 1000000 -> FCon Tryz.prog 246 [.osl 126 4 rows, .ag (pF t)] (fun r o => r = .osl 126 4 (rows ++ (Arb.lay PI.node rows.length t).map DPNode.own) /\ o = [.un, .un]) := fun t => by
 induction t using Arb.ind with
 | h a l ih =>
  intro rows hs
  rw [size_mk] at hs
  have hll := sizeL_len l
  rw [pF_mk]
  refine FI PM Tryz.func246 Tryz.ntmps246 [] rfl rfl ?_
  (have hWf := f0; repeat' (first | refine zS ?_ | refine zI ?_ ?_ | exact zF0 | refine zD fun hb => ?_ | exact zC | refine zT ?_ | fail))
  refine Wi (zc 6 3 777 (row := [.s (.int .i64 a.kind), .s (.int .i64 a.n), .s (.string a.s), .nil]) 3 1 (by simp only [go_sem, simprocAttr]) rfl (by decide) rfl (xA ?_))
  simp only [go_sem, simprocAttr]
  refine xk (fun n σ => ∃ (k nm : Nat), (nm = 13 \/ nm = 1036) /\ k <= l.length /\ n = l.length - k /\ σ.t 0 = .bs nm 4 (zV rows (l.take k)).length /\ σ.t 3 = .bx 3 0 /\ σ.t 5 = .s (.int .i64 rows.length) /\ σ.t 6 = .bx 6 0 /\ σ.t 19 = .s (.int .i64 l.length) /\ σ.t 20 = .s (.int .i64 k) /\
   σ.b nm = some (.arr 126 4 (zV rows (l.take k))) /\ σ.b 3 = some (.box [.s (.int .i64 a.kind), .s (.int .i64 a.n), .s (.string a.s), .nil, .sl 5 (l.map pF)]) /\ σ.b 6 = some (.box [.s (.int .i64 a.kind), .s (.int .i64 a.n), .s (.string a.s), .bs 777 1 (idxs (rows.length + 1) (l.take k)).length]) /\ σ.b 777 = some (.arr 3 1 ((idxs (rows.length + 1) (l.take k)).map iE)) /\ σ.b 900000 = none) l.length ⟨0, 13, .inl rfl, by omega, by omega, ?_⟩ ?_
  ·simp only [go_sem, simprocAttr, Int.natCast_zero, List.take_zero, playD_nil, List.length_append, idxs, List.map_nil]
  ·rintro n σ ⟨k, nm, hnm, hk, rfl, h0, h3, h5, h6, h19, h20, b0, b3, b6, b7, b9⟩ K' hK
   have hcl := YT rows (l.take k)
   have hil := idxs_len (rows.length + 1) (l.take k)
   have hts := QU l k
   have hle : (l.take k).length <= k := by rw [List.length_take]; omega
   by_cases hlt : k < l.length
   ·have hx := xh pF l k hlt
    obtain ⟨b, q, hbr⟩ : ∃ b q, l[k] = .mk b q := ⟨_, _, Arb.eta _⟩
    have he : pF l[k] = [.s (.int .i64 b.kind), .s (.int .i64 b.n), .s (.string b.s), .nil, .sl 5 (q.map pF)] := by rw [hbr, pF_mk]
    have hz := Qa hlt
    have hi := ih l[k] (List.getElem_mem hlt) (zV rows (l.take k)) (by omega)
    have hcs := xaM rows l k hlt
    have his := xaz (rows.length + 1) l k hlt
    rw [<- hcs, he] at hi
    rcases hnm with rfl | rfl
    ·(have hWf := w13 @h0 @h3 @h5 @h6 @h19 @h20 @b0 @b3 @b6 @b7 @b9 @hx @he; repeat' (first | refine zS ?_ | refine zI ?_ ?_ | refine zH hi ?_ | exact zF0 | refine zD fun hb => ?_ | exact zC | refine zT ?_ | fail))
     refine hK (l.length - (k + 1)) _ (by omega) ⟨k + 1, 1036, .inr rfl, by omega, rfl, ?_⟩
     simp only [go_sem, simprocAttr, h0, h3, h5, h6, h19, h20, b0, b3, b6, b7, b9, Int.natCast_succ, his, List.map_append, List.length_append, hcl]
     all_goals rfl
    ·(have hWf := w13 @h0 @h3 @h5 @h6 @h19 @h20 @b0 @b3 @b6 @b7 @b9 @hx @he; repeat' (first | refine zS ?_ | refine zI ?_ ?_ | refine zH hi ?_ | exact zF0 | refine zD fun hb => ?_ | exact zC | refine zT ?_ | fail))
     refine hK (l.length - (k + 1)) _ (by omega) ⟨k + 1, 1036, .inr rfl, by omega, rfl, ?_⟩
     simp only [go_sem, simprocAttr, h0, h3, h5, h6, h19, h20, b0, b3, b6, b7, b9, Int.natCast_succ, his, List.map_append, List.length_append, hcl]
     all_goals rfl
   ·obtain rfl : k = l.length := by omega
    rw [List.take_length] at h0 b0 b6 b7 hcl hil
    have hg := playD_get rows l
    have hst := playD_set rows a l
    have hln : (zV rows l).length = rows.length + (Arb.lay PI.node rows.length (.mk a l)).length := by rw [YT, Arb.lay_len, size_mk]; omega
    have htk : List.take (zV rows l).length (rows ++ (Arb.lay PI.node rows.length (.mk a l)).map DPNode.own) = rows ++ (Arb.lay PI.node rows.length (.mk a l)).map DPNode.own := List.take_of_length_le (by rw [hln, List.length_append, List.length_map]; exact Nat.le_refl _)
    rcases hnm with rfl | rfl
    ·(have hWf := w14 @h0 @h3 @h5 @h6 @h19 @h20 @b0 @b3 @b6 @b7 @b9 @hg @hst @htk; repeat' (first | refine zS ?_ | refine zI ?_ ?_ | exact zF0 | refine zD fun hb => ?_ | exact zC | refine zT ?_ | fail))
     all_goals exact Nat.le_of_eq hln
    ·(have hWf := w14 @h0 @h3 @h5 @h6 @h19 @h20 @b0 @b3 @b6 @b7 @b9 @hg @hst @htk; repeat' (first | refine zS ?_ | refine zI ?_ ?_ | exact zF0 | refine zD fun hb => ?_ | exact zC | refine zT ?_ | fail))
     all_goals exact Nat.le_of_eq hln
theorem c_playNil (t : PT) (hs : t.size <= 1000000) : FCon Tryz.prog 246 [.nil, .ag (pF t)] (fun r o => r = .osl 126 4 ((layP t).nodes.map DPNode.own) /\ o = [.un, .un]) := by
 have h := (c_l03PLay t [] (by simpa using hs)).argNil
 simp only [List.length_nil, List.nil_append] at h
 exact h
mutual
def eV : ET -> List D
 | .mk a l => [.s (.int .i64 a.kind), .s (.int .i64 a.at_), .s (.int .i64 a.n), .s (.string a.s), .nil, .osl 89 1 (a.pats.map MPat.own), .osl 58 7 (eVL l)]
def eVL : List ET -> List (List D)
 | [] => []
 | t :: l => eV t :: eVL l
end
theorem eVL_map (l : List ET) : eVL l = l.map eV := by
 induction l with
 | nil => rfl
 | cons t l ih => rw [eVL, ih]; rfl
theorem xn (a : EI) (l : List ET) : eV (.mk a l) = [.s (.int .i64 a.kind), .s (.int .i64 a.at_), .s (.int .i64 a.n), .s (.string a.s), .nil, .osl 89 1 (a.pats.map MPat.own), .osl 58 7 (l.map eV)] := by rw [eV, eVL_map]
theorem xE (k at_ : Int) (s : ByteArray) (l : List ET) : eV (eN k at_ s l) = [.s (.int .i64 k), .s (.int .i64 at_), .s (.int .i64 0), .s (.string s), .nil, .osl 89 1 [], .osl 58 7 (l.map eV)] := xn _ _
theorem FCon.eLeaf {P : Program} {f : FuncId} {args o : List D} {k a n : Int} {s : ByteArray} (h : FCon P f args (fun r o' => r = .ag [.s (.int .i64 k), .s (.int .i64 a), .s (.int .i64 n), .s (.string s), .nil, .nil, .nil] /\ o' = o)) : FCon P f args (fun r o' => r = .ag (eV (.mk ⟨k, a, n, s, []⟩ [])) /\ o' = o) := by
 rw [xn]
 refine h.agWo rfl fun j x y hx hy => ?_
 match j, hx, hy with
 | 0, hx, hy => left; rw [<- Option.some.inj hx, <- Option.some.inj hy]
 | 1, hx, hy => left; rw [<- Option.some.inj hx, <- Option.some.inj hy]
 | 2, hx, hy => left; rw [<- Option.some.inj hx, <- Option.some.inj hy]
 | 3, hx, hy => left; rw [<- Option.some.inj hx, <- Option.some.inj hy]
 | 4, hx, hy => left; rw [<- Option.some.inj hx, <- Option.some.inj hy]
 | 5, hx, hy => right; exact ⟨(Option.some.inj hx).symm, .inr ⟨_, 1, (Option.some.inj hy).symm⟩⟩
 | 6, hx, hy => right; exact ⟨(Option.some.inj hx).symm, .inr ⟨_, 7, (Option.some.inj hy).symm⟩⟩
theorem FCon.eOne {P : Program} {f : FuncId} {args o : List D} {k a n : Int} {s : ByteArray} {l : List ET} (h : FCon P f args (fun r o' => r = .ag [.s (.int .i64 k), .s (.int .i64 a), .s (.int .i64 n), .s (.string s), .nil, .nil, .osl 58 7 (l.map eV)] /\ o' = o)) : FCon P f args (fun r o' => r = .ag (eV (.mk ⟨k, a, n, s, []⟩ l)) /\ o' = o) := by
 rw [xn]
 refine h.agWo rfl fun j x y hx hy => ?_
 match j, hx, hy with
 | 0, hx, hy => left; rw [<- Option.some.inj hx, <- Option.some.inj hy]
 | 1, hx, hy => left; rw [<- Option.some.inj hx, <- Option.some.inj hy]
 | 2, hx, hy => left; rw [<- Option.some.inj hx, <- Option.some.inj hy]
 | 3, hx, hy => left; rw [<- Option.some.inj hx, <- Option.some.inj hy]
 | 4, hx, hy => left; rw [<- Option.some.inj hx, <- Option.some.inj hy]
 | 5, hx, hy => right; exact ⟨(Option.some.inj hx).symm, .inr ⟨_, 1, (Option.some.inj hy).symm⟩⟩
 | 6, hx, hy => left; rw [<- Option.some.inj hx, <- Option.some.inj hy]
theorem xS (k a : Int) (s : ByteArray) (l : List ET) : FCon Tryz.prog 154 [.s (.int .i64 k), .s (.int .i64 a), .s (.string s), .osl 58 7 (l.map eV)] (fun r o => r = .ag (eV (eN k a s l)) /\ o = [.un, .un, .un, .un]) := by
 refine FCon.eOne ?_
 refine FI PM Tryz.func154 Tryz.ntmps154 [] rfl rfl ?_
 (have hWf := f0; repeat' (first | refine zS ?_ | refine zI ?_ ?_ | exact zF0 | refine zD fun hb => ?_ | exact zC | refine zT ?_ | fail))
theorem uk (k a : Int) (s : ByteArray) : FCon Tryz.prog 154 [.s (.int .i64 k), .s (.int .i64 a), .s (.string s), .nil] (fun r o => r = .ag (eV (eN k a s [])) /\ o = [.un, .un, .un, .un]) := by
 refine FCon.eLeaf ?_
 refine FI PM Tryz.func154 Tryz.ntmps154 [] rfl rfl ?_
 (have hWf := f0; repeat' (first | refine zS ?_ | refine zI ?_ ?_ | exact zF0 | refine zD fun hb => ?_ | exact zC | refine zT ?_ | fail))
def zR (rows : List (List D)) (l : List ET) : List (List D) := rows ++ [.s (.int .i64 0), .s (.int .i64 0), .s (.int .i64 0), .s (.string ⟨#[]⟩), .nil, .nil] :: (layL EI.node (rows.length + 1) l).map MNode.own
theorem YE (rows : List (List D)) (l : List ET) : (zR rows l).length = rows.length + 1 + sizeL l := by
 unfold zR; rw [List.length_append, List.length_cons, List.length_map, layL_len]; omega
theorem elayD_nil (rows : List (List D)) : zR rows [] = rows ++ [[.s (.int .i64 0), .s (.int .i64 0), .s (.int .i64 0), .s (.string ⟨#[]⟩), .nil, .nil]] := rfl
theorem xan (rows : List (List D)) (l : List ET) (k : Nat) (h : k < l.length) : zR rows (l.take (k + 1)) = zR rows (l.take k) ++ (Arb.lay EI.node (zR rows (l.take k)).length l[k]).map MNode.own := by
 rw [YE]
 unfold zR
 rw [List.take_succ_eq_append_getElem h, layL_app, layL_cons, layL_nil, List.append_nil, List.map_append, List.append_assoc, List.cons_append]
theorem elayD_get (rows : List (List D)) (l : List ET) : (zR rows l).getD rows.length [] = [.s (.int .i64 0), .s (.int .i64 0), .s (.int .i64 0), .s (.string ⟨#[]⟩), .nil, .nil] := by
 unfold zR
 rw [List.getD_eq_getElem?_getD, List.getElem?_append_right (Nat.le_refl _), Nat.sub_self]; rfl
theorem elayD_set (rows : List (List D)) (a : EI) (l : List ET) : (zR rows l).set rows.length [.s (.int .i64 a.kind), .s (.int .i64 a.at_), .s (.int .i64 a.n), .s (.string a.s), .osl 3 1 ((idxs (rows.length + 1) l).map iE), .osl 89 1 (a.pats.map MPat.own)] = rows ++ (Arb.lay EI.node rows.length (.mk a l)).map MNode.own := by
 unfold zR
 rw [List.set_append_right _ _ (Nat.le_refl _), Nat.sub_self, List.set_cons_zero, lay_mk, List.map_cons]; rfl
theorem QT (l : List ET) (k : Nat) : sizeL (l.take k) <= sizeL l := by
 have e := congrArg sizeL (List.take_append_drop k l)
 rw [sizeL_app] at e
 omega
theorem V9 {l : List ET} {k : Nat} (h : k < l.length) : sizeL (l.take k) + l[k].size <= sizeL l := by
 have e := congrArg sizeL (List.take_append_drop k l)
 rw [sizeL_app, List.drop_eq_getElem_cons h, sizeL_cons] at e
 omega
theorem xay (b : Nat) (l : List ET) (k : Nat) (h : k < l.length) : idxs b (l.take (k + 1)) = idxs b (l.take k) ++ [((b + sizeL (l.take k) : Nat) : Int)] := by
 rw [List.take_succ_eq_append_getElem h, idxs_app]; rfl
def KidsO (l : List ET) (k : Nat) (o : Ob) : Prop := ∃ rows : List (List D), rows.length = l.length /\ (∀ i, k <= i -> rows[i]? = (l.map eV)[i]?) /\ (o = .arr 58 7 rows \/ ∃ (i : Nat) (rr : List D), i < k /\ o = .rw 58 7 rows i rr)
theorem AC_drop {M : Md} {N : Nat} {pl : List (Nat × Plan)} {K : Exit -> St -> Prop} {σ : St} {c : Code} (id : Nat) (h : ∀ τ : St, τ.t = σ.t -> (∀ i, i ≠ id -> τ.b i = σ.b i) -> τ.b id = none -> AC M N pl c K τ) : AC M N pl c K σ := by
 refine ug (σ' := ⟨σ.t, fun i => if i = id then none else σ.b i⟩) (fun x g a w _ _ hr => ⟨g, { hr with tm := hr.tm, ob := fun i o ho => ?_, par := fun i o ho hp => ?_ }⟩) (h _ rfl (fun i hi => if_neg hi) (if_pos rfl))
 ·have ho : (if i = id then none else σ.b i) = some o := ho
  split at ho
  ·cases ho
  ·exact hr.ob i o ho
 ·have ho : (if i = id then none else σ.b i) = some o := ho
  split at ho
  ·cases ho
  ·exact hr.par i o ho hp
theorem AC_kids {M : Md} {N : Nat} {pl : List (Nat × Plan)} {K : Exit -> St -> Prop} {σ : St} {c : Code} {l : List ET} {k id : Nat} {o : Ob} (hb : σ.b id = some o) (hk : KidsO l k o)
  (h : ∀ (τ : St) (rs : List (List D)), τ.t = σ.t -> (∀ i, i ≠ id -> τ.b i = σ.b i) -> rs.length = l.length -> (∀ i, k <= i -> rs[i]? = (l.map eV)[i]?) -> τ.b id = some (.arr 58 7 rs) -> AC M N pl c K τ) : AC M N pl c K σ := by
 obtain ⟨rs, h1, h2, rfl | ⟨i, rr, hi, rfl⟩⟩ := hk
 ·exact h σ rs rfl (fun _ _ => rfl) h1 h2 hb
 ·refine Us id hb fun us => ?_
  refine h _ (rs.set i (opqR us rr)) rfl (fun j hj => by rw [setB_b, if_neg hj]) (by rw [List.length_set]; exact h1) (fun j hj => ?_) (by rw [setB_b, if_pos rfl])
  rw [List.getElem?_set, if_neg (by omega)]
  exact h2 j hj
theorem c_l03Lay : ∀ t : ET, ∀ rows : List (List D), rows.length + t.size <= 1000000 -> FCon Tryz.prog 24 [.osl 55 6 rows, .ag (eV t)] (fun r o => r = .osl 55 6 (rows ++ (Arb.lay EI.node rows.length t).map MNode.own) /\ o = [.un, .ag [.un, .un, .un, .un, .un, .un, .un]]) := fun t => by
 induction t using Arb.ind with
 | h a l ih =>
  intro rows hs
  rw [size_mk] at hs
  have hll := sizeL_len l
  rw [xn]
  refine FI PM Tryz.func24 Tryz.ntmps24 [] rfl rfl ?_
  (have hWf := f0; repeat' (first | refine zS ?_ | refine zI ?_ ?_ | exact zF0 | refine zD fun hb => ?_ | exact zC | refine zT ?_ | fail))
  refine Wi (zc 6 4 777 (row := [.s (.int .i64 a.kind), .s (.int .i64 a.at_), .s (.int .i64 a.n), .s (.string a.s), .nil, .bs 900105 1 a.pats.length]) 3 1 (by simp only [go_sem, simprocAttr]) rfl (by decide) rfl (xA ?_))
  simp only [go_sem, simprocAttr]
  refine xk (fun n σ => ∃ (k nm : Nat), (nm = 13 \/ nm = 1036) /\ k <= l.length /\ n = l.length - k /\ σ.t 0 = .bs nm 6 (zR rows (l.take k)).length /\ σ.t 3 = .bx 3 0 /\ σ.t 5 = .s (.int .i64 rows.length) /\ σ.t 6 = .bx 6 0 /\ σ.t 19 = .s (.int .i64 l.length) /\ σ.t 20 = .s (.int .i64 k) /\
   σ.b nm = some (.arr 55 6 (zR rows (l.take k))) /\ σ.b 3 = some (.box [.s (.int .i64 a.kind), .s (.int .i64 a.at_), .s (.int .i64 a.n), .s (.string a.s), .nil, .bs 900105 1 a.pats.length, .bs 900106 7 l.length]) /\ σ.b 6 = some (.box [.s (.int .i64 a.kind), .s (.int .i64 a.at_), .s (.int .i64 a.n), .s (.string a.s), .bs 777 1 (idxs (rows.length + 1) (l.take k)).length, .bs 900105 1 a.pats.length]) /\ σ.b 777 = some (.arr 3 1 ((idxs (rows.length + 1) (l.take k)).map iE)) /\ σ.b 900000 = none /\ σ.b 900105 = some (.arr 89 1 (a.pats.map MPat.own)) /\ ∃ o, σ.b 900106 = some o /\ KidsO l k o) l.length ⟨0, 13, .inl rfl, by omega, by omega, ?_⟩ ?_
  ·simp only [go_sem, simprocAttr, Int.natCast_zero, List.take_zero, elayD_nil, List.length_append, idxs, List.map_nil]
   exact ⟨_, rfl, l.map eV, by rw [List.length_map], fun _ _ => rfl, .inl rfl⟩
  ·rintro n σ ⟨k, nm, hnm, hk, rfl, h0, h3, h5, h6, h19, h20, b0, b3, b6, b7, b9, b5, o, b10, hko⟩ K' hK
   have hcl := YE rows (l.take k)
   have hil := idxs_len (rows.length + 1) (l.take k)
   have hts := QT l k
   have hle : (l.take k).length <= k := by rw [List.length_take]; omega
   by_cases hlt : k < l.length
   ·refine AC_kids b10 hko fun τ rs e1 e2 hrl hrs d10 => ?_
    obtain ⟨b, q, hbr⟩ : ∃ b q, l[k] = .mk b q := ⟨_, _, Arb.eta _⟩
    have he : eV l[k] = [.s (.int .i64 b.kind), .s (.int .i64 b.at_), .s (.int .i64 b.n), .s (.string b.s), .nil, .osl 89 1 (b.pats.map MPat.own), .osl 58 7 (q.map eV)] := by rw [hbr, xn]
    have hrow : rs[k]? = some [.s (.int .i64 b.kind), .s (.int .i64 b.at_), .s (.int .i64 b.n), .s (.string b.s), .nil, .osl 89 1 (b.pats.map MPat.own), .osl 58 7 (q.map eV)] := by
     rw [hrs k (Nat.le_refl _), List.getElem?_map, List.getElem?_eq_getElem hlt, Option.map_some, he]
    have hz := V9 hlt
    have hi := ih l[k] (List.getElem_mem hlt) (zR rows (l.take k)) (by omega)
    have hcs := xan rows l k hlt
    have his := xay (rows.length + 1) l k hlt
    rw [<- hcs, he] at hi
    have g0 := (congrFun e1 0).trans h0
    have g3 := (congrFun e1 3).trans h3
    have g5 := (congrFun e1 5).trans h5
    have g6 := (congrFun e1 6).trans h6
    have g19 := (congrFun e1 19).trans h19
    have g20 := (congrFun e1 20).trans h20
    have d0 := (e2 nm (by omega)).trans b0
    have d3 := (e2 3 (by omega)).trans b3
    have d6 := (e2 6 (by omega)).trans b6
    have d7 := (e2 777 (by omega)).trans b7
    have d9 := (e2 900000 (by omega)).trans b9
    have d5 := (e2 900105 (by omega)).trans b5
    clear h0 h3 h5 h6 h19 h20 b0 b3 b6 b7 b9 b5 b10 hko e1 e2
    refine Zy 900106 k d10 hrow (vd 900106 5 778 (e := 58) (k := 7) (i := k) (rows := rs) (rr := [.s (.int .i64 b.kind), .s (.int .i64 b.at_), .s (.int .i64 b.n), .s (.string b.s), .nil, .osl 89 1 (b.pats.map MPat.own), .osl 58 7 (q.map eV)]) (d := .osl 89 1 (b.pats.map MPat.own)) (o := .arr 89 1 (b.pats.map MPat.own)) (by simp only [go_sem, simprocAttr]) rfl rfl (by decide) rfl (vd 900106 6 779 (e := 58) (k := 7) (i := k) (rows := rs) (rr := [.s (.int .i64 b.kind), .s (.int .i64 b.at_), .s (.int .i64 b.n), .s (.string b.s), .nil, .bs 778 1 b.pats.length, .osl 58 7 (q.map eV)]) (d := .osl 58 7 (q.map eV)) (o := .arr 58 7 (q.map eV)) (by simp only [go_sem, simprocAttr]) rfl rfl (by decide) rfl ?_))
    rcases hnm with rfl | rfl
    ·(have hWf := w14 @g0 @g3 @g5 @g6 @g19 @g20 @d0 @d3 @d6 @d7 @d9 @d5 @d10 @he; repeat' (first | refine zS ?_ | refine zI ?_ ?_ | refine zH hi ?_ | exact zF0 | refine zD fun hb => ?_ | exact zC | refine zT ?_ | fail))
     refine hK (l.length - (k + 1)) _ (by omega) ⟨k + 1, 1036, .inr rfl, by omega, rfl, ?_⟩
     simp only [go_sem, simprocAttr, g0, g3, g5, g6, g19, g20, d0, d3, d6, d7, d9, d5, d10, he, Int.natCast_succ, his, List.map_append, List.length_append, hcl]
     exact ⟨rfl, _, rfl, rs, hrl, fun i hi => hrs i (by omega), .inr ⟨k, _, by omega, rfl⟩⟩
    ·(have hWf := w14 @g0 @g3 @g5 @g6 @g19 @g20 @d0 @d3 @d6 @d7 @d9 @d5 @d10 @he; repeat' (first | refine zS ?_ | refine zI ?_ ?_ | refine zH hi ?_ | exact zF0 | refine zD fun hb => ?_ | exact zC | refine zT ?_ | fail))
     refine hK (l.length - (k + 1)) _ (by omega) ⟨k + 1, 1036, .inr rfl, by omega, rfl, ?_⟩
     simp only [go_sem, simprocAttr, g0, g3, g5, g6, g19, g20, d0, d3, d6, d7, d9, d5, d10, he, Int.natCast_succ, his, List.map_append, List.length_append, hcl]
     exact ⟨rfl, _, rfl, rs, hrl, fun i hi => hrs i (by omega), .inr ⟨k, _, by omega, rfl⟩⟩
   ·obtain rfl : k = l.length := by omega
    rw [List.take_length] at h0 b0 b6 b7 hcl hil
    have hg := elayD_get rows l
    have hst := elayD_set rows a l
    have hln : (zR rows l).length = rows.length + (Arb.lay EI.node rows.length (.mk a l)).length := by rw [YE, Arb.lay_len, size_mk]; omega
    have htk : List.take (zR rows l).length (rows ++ (Arb.lay EI.node rows.length (.mk a l)).map MNode.own) = rows ++ (Arb.lay EI.node rows.length (.mk a l)).map MNode.own := List.take_of_length_le (by rw [hln, List.length_append, List.length_map]; exact Nat.le_refl _)
    refine AC_drop 900106 fun τ e1 e2 d10 => ?_
    have g0 := (congrFun e1 0).trans h0
    have g3 := (congrFun e1 3).trans h3
    have g5 := (congrFun e1 5).trans h5
    have g6 := (congrFun e1 6).trans h6
    have g19 := (congrFun e1 19).trans h19
    have g20 := (congrFun e1 20).trans h20
    have d0 := (e2 nm (by omega)).trans b0
    have d3 := (e2 3 (by omega)).trans b3
    have d6 := (e2 6 (by omega)).trans b6
    have d7 := (e2 777 (by omega)).trans b7
    have d9 := (e2 900000 (by omega)).trans b9
    have d5 := (e2 900105 (by omega)).trans b5
    clear h0 h3 h5 h6 h19 h20 b0 b3 b6 b7 b9 b5 b10 hko e1 e2
    rcases hnm with rfl | rfl
    ·(have hWf := w16 @g0 @g3 @g5 @g6 @g19 @g20 @d0 @d3 @d6 @d7 @d9 @d5 @d10 @hg @hst @htk; repeat' (first | refine zS ?_ | refine zI ?_ ?_ | exact zF0 | refine zD fun hb => ?_ | exact zC | refine zT ?_ | fail))
     all_goals exact Nat.le_of_eq hln
    ·(have hWf := w16 @g0 @g3 @g5 @g6 @g19 @g20 @d0 @d3 @d6 @d7 @d9 @d5 @d10 @hg @hst @htk; repeat' (first | refine zS ?_ | refine zI ?_ ?_ | exact zF0 | refine zD fun hb => ?_ | exact zC | refine zT ?_ | fail))
     all_goals exact Nat.le_of_eq hln
def CExp (T : List MTok) (e : Int) (R : PS -> ET × PS) (d : Int) : Prop := ∀ s : PS, WF T s -> FCon Tryz.prog 130 [.opt (rdD T e s), .s (.int .i64 d)] (fun r o => r = .ag (eV (R s).1) /\ o = [.opt (rdD T e (R s).2), .un])
section
variable {T : List MTok} {e : Int} {R : PS -> ET × PS}
theorem vN {s : PS} (h : begT (tokS T e s) = true) : s.i < T.length := (xK (Xa h)).2
def EA (T : List MTok) (e : Int) (d : Int) (s : PS) (r : ET × PS) : Prop := FCon Tryz.prog 277 [.opt (rdD T e s), .s (.int .i64 d)] (fun x o => x = .ag (eV r.1) /\ o = [.opt (rdD T e r.2), .un])
theorem eatom_no (d : Int) (s : PS) (h0 : begT (tokS T e s) = false) : EA T e d s (E0, xx T e s 7) := by
 have ht := xj T e s
 have hb := yf T e s
 have hf := yz T e s 7
 rw [h0] at hb
 unfold EA
 generalize tokS T e s = t at *
 rw [MTok.enc_eq, xg] at ht
 rw [xg] at hb
 rw [xb, xb] at hf
 refine FCon.eLeaf ?_
 rw [xb, xb]
 refine FI PM Tryz.func277 Tryz.ntmps277 [] rfl rfl ?_
 (have hWf := w2 @xe @xd; repeat' (first | refine zS ?_ | refine zI ?_ ?_ | refine zK (ht) ?_ | refine zK (hb) ?_ | refine zH hf ?_ | exact zF0 | refine zD fun hb => ?_ | exact zC | refine zT ?_ | fail))
 all_goals rfl
theorem eatom_int (hT : T.length <= 10000) (d : Int) (s : PS) (h0 : begT (tokS T e s) = true) (h1 : (tokS T e s).kind = 1) : EA T e d s (.mk ⟨1, (tokS T e s).at_, (tokS T e s).n, nS, []⟩ [], advS s) := by
 have ht := xj T e s
 have hb := yf T e s
 have hlt := (xK (by rw [h1]; decide)).2
 rw [h0] at hb
 unfold EA
 generalize tokS T e s = t at *
 have f1 := kT h1
 rw [MTok.enc_eq, xg] at ht
 rw [xg] at hb
 refine FCon.eLeaf ?_
 show FCon _ _ _ (fun x o => _ /\ o = [.opt (rdD T e (advS s)), .un])
 unfold advS
 rw [xb, xb]
 refine FI PM Tryz.func277 Tryz.ntmps277 [] rfl rfl ?_
 (have hWf := w3 @xe @xd @f1; repeat' (first | refine zS ?_ | refine zI ?_ ?_ | refine zK (ht) ?_ | refine zK (hb) ?_ | exact zF0 | refine zD fun hb => ?_ | exact zC | refine zT ?_ | fail))
 all_goals rfl
theorem eatom_str (hT : T.length <= 10000) (d : Int) (s : PS) (h0 : begT (tokS T e s) = true) (h1 : (tokS T e s).kind = 2) : EA T e d s (eN 2 (tokS T e s).at_ (tokS T e s).s [], advS s) := by
 have ht := xj T e s
 have hb := yf T e s
 have hlt := (xK (by rw [h1]; decide)).2
 have ho := uk 2 (tokS T e s).at_ (tokS T e s).s
 rw [h0] at hb
 unfold EA
 generalize tokS T e s = t at *
 have f1 : (t.kind == 1) = false := by rw [h1]; rfl
 have f2 := kT h1
 rw [MTok.enc_eq, xg] at ht
 rw [xg] at hb
 rw [xE] at ho
 show FCon _ _ _ (fun x o => x = .ag (eV (eN 2 t.at_ t.s [])) /\ o = [.opt (rdD T e (advS s)), .un])
 unfold advS
 rw [xE, xb, xb]
 refine FI PM Tryz.func277 Tryz.ntmps277 [] rfl rfl ?_
 (have hWf := w4 @xe @xd @f1 @f2; repeat' (first | refine zS ?_ | refine zI ?_ ?_ | refine zK (ht) ?_ | refine zK (hb) ?_ | refine zH ho ?_ | exact zF0 | refine zD fun hb => ?_ | exact zC | refine zT ?_ | fail))
 all_goals rfl
theorem eatom_var (hT : T.length <= 10000) (d : Int) (s : PS) (h0 : begT (tokS T e s) = true) (h1 : (tokS T e s).kind = 3) : EA T e d s (eN 3 (tokS T e s).at_ (tokS T e s).s [], advS s) := by
 have ht := xj T e s
 have hb := yf T e s
 have hlt := (xK (by rw [h1]; decide)).2
 have ho := uk 3 (tokS T e s).at_ (tokS T e s).s
 rw [h0] at hb
 unfold EA
 generalize tokS T e s = t at *
 have f1 : (t.kind == 1) = false := by rw [h1]; rfl
 have f2 : (t.kind == 2) = false := by rw [h1]; rfl
 have f3 := kT h1
 rw [MTok.enc_eq, xg] at ht
 rw [xg] at hb
 rw [xE] at ho
 show FCon _ _ _ (fun x o => x = .ag (eV (eN 3 t.at_ t.s [])) /\ o = [.opt (rdD T e (advS s)), .un])
 unfold advS
 rw [xE, xb, xb]
 refine FI PM Tryz.func277 Tryz.ntmps277 [] rfl rfl ?_
 (have hWf := w5 @xe @xd @f1 @f2 @f3; repeat' (first | refine zS ?_ | refine zI ?_ ?_ | refine zK (ht) ?_ | refine zK (hb) ?_ | refine zH ho ?_ | exact zF0 | refine zD fun hb => ?_ | exact zC | refine zT ?_ | fail))
 all_goals rfl
theorem eatom_con (hT : T.length <= 10000) (d : Int) (s : PS) (h0 : begT (tokS T e s) = true) (h1 : (tokS T e s).kind = 4) : EA T e d s (eN 4 (tokS T e s).at_ (tokS T e s).s [], advS s) := by
 have ht := xj T e s
 have hb := yf T e s
 have hlt := (xK (by rw [h1]; decide)).2
 have ho := uk 4 (tokS T e s).at_ (tokS T e s).s
 rw [h0] at hb
 unfold EA
 generalize tokS T e s = t at *
 have f1 : (t.kind == 1) = false := by rw [h1]; rfl
 have f2 : (t.kind == 2) = false := by rw [h1]; rfl
 have f3 : (t.kind == 3) = false := by rw [h1]; rfl
 have f4 := kT h1
 rw [MTok.enc_eq, xg] at ht
 rw [xg] at hb
 rw [xE] at ho
 show FCon _ _ _ (fun x o => x = .ag (eV (eN 4 t.at_ t.s [])) /\ o = [.opt (rdD T e (advS s)), .un])
 unfold advS
 rw [xE, xb, xb]
 refine FI PM Tryz.func277 Tryz.ntmps277 [] rfl rfl ?_
 (have hWf := w6 @xe @xd @f1 @f2 @f3 @f4; repeat' (first | refine zS ?_ | refine zI ?_ ?_ | refine zK (ht) ?_ | refine zK (hb) ?_ | refine zH ho ?_ | exact zF0 | refine zD fun hb => ?_ | exact zC | refine zT ?_ | fail))
 all_goals rfl
theorem eatom_nil (hT : T.length <= 10000) (d : Int) (hd : 0 <= d /\ d <= 1000) (s : PS) (h0 : begT (tokS T e s) = true) (k1 : ¬ (tokS T e s).kind = 1) (k2 : ¬ (tokS T e s).kind = 2) (k3 : ¬ (tokS T e s).kind = 3) (k4 : ¬ (tokS T e s).kind = 4) (n0 : ((tokS T e s).s.toList == ((⟨#[91]⟩ : ByteArray)).toList) = true) : EA T e d s (eN 4 (tokS T e s).at_ (⟨#[91, 93]⟩ : ByteArray) [], xf T e (advS s) (⟨#[93]⟩ : ByteArray)) := by
 have ht := xj T e s
 have hb := yf T e s
 have hlt := vN h0
 have ho := uk 4 (tokS T e s).at_ (⟨#[91, 93]⟩ : ByteArray)
 have htk := xy T e (advS s) (by omega) (⟨#[93]⟩ : ByteArray) (xa (l := [93]) (by simp))
 rw [h0] at hb
 unfold EA
 generalize tokS T e s = t at *
 have f1 := kF k1
 have f2 := kF k2
 have f3 := kF k3
 have f4 := kF k4
 rw [MTok.enc_eq, xg] at ht
 rw [xg] at hb
 rw [xE] at ho
 simp only
 generalize xf T e (advS s) (⟨#[93]⟩ : ByteArray) = s2 at *
 unfold advS at htk
 rw [xb, xb] at htk
 rw [xE, xb, xb]
 refine FI PM Tryz.func277 Tryz.ntmps277 [] rfl rfl ?_
 (have hWf := w7 @xe @xd @f1 @f2 @f3 @f4 @n0; repeat' (first | refine zS ?_ | refine zI ?_ ?_ | refine zK (ht) ?_ | refine zK (hb) ?_ | refine zH htk ?_ | refine zH ho ?_ | exact zF0 | refine zD fun hb => ?_ | exact zC | refine zT ?_ | fail))
 all_goals rfl
theorem eatom_oth (hT : T.length <= 10000) (d : Int) (hd : 0 <= d /\ d <= 1000) (s : PS) (h0 : begT (tokS T e s) = true) (k1 : ¬ (tokS T e s).kind = 1) (k2 : ¬ (tokS T e s).kind = 2) (k3 : ¬ (tokS T e s).kind = 3) (k4 : ¬ (tokS T e s).kind = 4) (n0 : ((tokS T e s).s.toList == ((⟨#[91]⟩ : ByteArray)).toList) = false) (n1 : ((tokS T e s).s.toList == ((⟨#[40]⟩ : ByteArray)).toList) = false) : EA T e d s (eN 4 (tokS T e s).at_ (tokS T e s).s [], advS s) := by
 have ht := xj T e s
 have hb := yf T e s
 have hlt := vN h0
 have ho := uk 4 (tokS T e s).at_ (tokS T e s).s
 rw [h0] at hb
 unfold EA
 generalize tokS T e s = t at *
 have f1 := kF k1
 have f2 := kF k2
 have f3 := kF k3
 have f4 := kF k4
 rw [MTok.enc_eq, xg] at ht
 rw [xg] at hb
 rw [xE] at ho
 show FCon _ _ _ (fun x o => x = .ag (eV (eN 4 t.at_ t.s [])) /\ o = [.opt (rdD T e (advS s)), .un])
 unfold advS
 rw [xE, xb, xb]
 refine FI PM Tryz.func277 Tryz.ntmps277 [] rfl rfl ?_
 (have hWf := w8 @xe @xd @f1 @f2 @f3 @f4 @n0 @n1; repeat' (first | refine zS ?_ | refine zI ?_ ?_ | refine zK (ht) ?_ | refine zK (hb) ?_ | refine zH ho ?_ | exact zF0 | refine zD fun hb => ?_ | exact zC | refine zT ?_ | fail))
 all_goals rfl
theorem xam (hT : T.length <= 10000) (d : Int) (hd : 0 <= d /\ d <= 1000) (s : PS) (h0 : begT (tokS T e s) = true) (k1 : ¬ (tokS T e s).kind = 1) (k2 : ¬ (tokS T e s).kind = 2) (k3 : ¬ (tokS T e s).kind = 3) (k4 : ¬ (tokS T e s).kind = 4) (n0 : ((tokS T e s).s.toList == ((⟨#[91]⟩ : ByteArray)).toList) = false) (n1 : ((tokS T e s).s.toList == ((⟨#[40]⟩ : ByteArray)).toList) = true) (h2 : isS T e (advS s) (⟨#[41]⟩ : ByteArray) = true) : EA T e d s (eN 12 (tokS T e s).at_ nS [], advS (advS s)) := by
 have ht := xj T e s
 have hb := yf T e s
 have hlt := vN h0
 have ho := uk 12 (tokS T e s).at_ nS
 have his := xw T e (advS s) (⟨#[41]⟩ : ByteArray)
 have hlt2 := (xt h2 (xa (l := [41]) (by simp))).2
 rw [h2] at his
 rw [h0] at hb
 unfold EA
 clear h2
 generalize tokS T e s = t at *
 have f1 := kF k1
 have f2 := kF k2
 have f3 := kF k3
 have f4 := kF k4
 rw [MTok.enc_eq, xg] at ht
 rw [xg] at hb
 rw [xE] at ho
 unfold nS at *
 show FCon _ _ _ (fun x o => x = .ag (eV (eN 12 t.at_ _ [])) /\ o = [.opt (rdD T e (advS (advS s))), .un])
 unfold advS at *
 rw [xg] at his
 rw [xE, xb, xb]
 refine FI PM Tryz.func277 Tryz.ntmps277 [] rfl rfl ?_
 (have hWf := w8 @xe @xd @f1 @f2 @f3 @f4 @n0 @n1; repeat' (first | refine zS ?_ | refine zI ?_ ?_ | refine zK (ht) ?_ | refine zK (hb) ?_ | refine zK (his) ?_ | refine zH ho ?_ | exact zF0 | refine zD fun hb => ?_ | exact zC | refine zT ?_ | fail))
 all_goals rfl
theorem eatom_par (hT : T.length <= 10000) (d : Int) (hd : 0 <= d /\ d <= 1000) (s : PS) (h0 : begT (tokS T e s) = true) (k1 : ¬ (tokS T e s).kind = 1) (k2 : ¬ (tokS T e s).kind = 2) (k3 : ¬ (tokS T e s).kind = 3) (k4 : ¬ (tokS T e s).kind = 4) (n0 : ((tokS T e s).s.toList == ((⟨#[91]⟩ : ByteArray)).toList) = false) (n1 : ((tokS T e s).s.toList == ((⟨#[40]⟩ : ByteArray)).toList) = true) (h2 : isS T e (advS s) (⟨#[41]⟩ : ByteArray) = false) (hR : CExp T e R (d + 1)) (w1 : WF T (advS s)) (h5 : isS T e (R (advS s)).2 (⟨#[44]⟩ : ByteArray) = false) : EA T e d s ((R (advS s)).1, xf T e (R (advS s)).2 (⟨#[41]⟩ : ByteArray)) := by
 have ht := xj T e s
 have hb := yf T e s
 have hlt := vN h0
 have his := xw T e (advS s) (⟨#[41]⟩ : ByteArray)
 rw [h2] at his
 have hr := hR (advS s) w1
 have hic := xw T e (R (advS s)).2 (⟨#[44]⟩ : ByteArray)
 rw [h5] at hic
 have htk := xy T e (R (advS s)).2 (by omega) (⟨#[41]⟩ : ByteArray) (xa (l := [41]) (by simp))
 rw [h0] at hb
 unfold EA
 clear h2 h5
 generalize tokS T e s = t at *
 have f1 := kF k1
 have f2 := kF k2
 have f3 := kF k3
 have f4 := kF k4
 rw [MTok.enc_eq, xg] at ht
 rw [xg] at hb
 rcases hq : R (advS s) with ⟨⟨a, l⟩, s1⟩
 rw [hq] at hr hic htk
 simp only at hr hic htk ⊢
 generalize xf T e s1 (⟨#[41]⟩ : ByteArray) = s2 at *
 unfold advS at *
 rw [xn, xb, xb] at hr
 rw [xb, xb] at htk
 rw [xg] at his hic
 rw [xn, xb, xb]
 refine FI PM Tryz.func277 Tryz.ntmps277 [] rfl rfl ?_
 (have hWf := w8 @xe @xd @f1 @f2 @f3 @f4 @n0 @n1; repeat' (first | refine zS ?_ | refine zI ?_ ?_ | refine zK (ht) ?_ | refine zK (hb) ?_ | refine zK (his) ?_ | refine zH hr ?_ | refine zK (hic) ?_ | refine zH htk ?_ | exact zF0 | refine zD fun hb => ?_ | exact zC | refine zT ?_ | fail))
 all_goals rfl
theorem xal (hT : T.length <= 10000) (d : Int) (hd : 0 <= d /\ d <= 1000) (s : PS) (h0 : begT (tokS T e s) = true) (k1 : ¬ (tokS T e s).kind = 1) (k2 : ¬ (tokS T e s).kind = 2) (k3 : ¬ (tokS T e s).kind = 3) (k4 : ¬ (tokS T e s).kind = 4) (n0 : ((tokS T e s).s.toList == ((⟨#[91]⟩ : ByteArray)).toList) = false) (n1 : ((tokS T e s).s.toList == ((⟨#[40]⟩ : ByteArray)).toList) = true) (h2 : isS T e (advS s) (⟨#[41]⟩ : ByteArray) = false) (hR : CExp T e R (d + 1)) (w1 : WF T (advS s)) (h5 : isS T e (R (advS s)).2 (⟨#[44]⟩ : ByteArray) = true) (w2 : WF T (advS (R (advS s)).2)) : EA T e d s (eN 11 (tokS T e s).at_ nS [(R (advS s)).1, (R (advS (R (advS s)).2)).1], xf T e (R (advS (R (advS s)).2)).2 (⟨#[41]⟩ : ByteArray)) := by
 have ht := xj T e s
 have hb := yf T e s
 have hlt := vN h0
 have his := xw T e (advS s) (⟨#[41]⟩ : ByteArray)
 rw [h2] at his
 have hr := hR (advS s) w1
 have hic := xw T e (R (advS s)).2 (⟨#[44]⟩ : ByteArray)
 have hlt2 := (xt h5 (xa (l := [44]) (by simp))).2
 rw [h5] at hic
 have hr2 := hR (advS (R (advS s)).2) w2
 have htk := xy T e (R (advS (R (advS s)).2)).2 (by omega) (⟨#[41]⟩ : ByteArray) (xa (l := [41]) (by simp))
 have ho := xS 11 (tokS T e s).at_ nS [(R (advS s)).1, (R (advS (R (advS s)).2)).1]
 rw [h0] at hb
 unfold EA
 clear h2 h5 w1 w2
 generalize tokS T e s = t at *
 have f1 := kF k1
 have f2 := kF k2
 have f3 := kF k3
 have f4 := kF k4
 rw [MTok.enc_eq, xg] at ht
 rw [xg] at hb
 rcases hq : R (advS s) with ⟨⟨a, l⟩, s1⟩
 rw [hq] at hr hic htk hr2 hlt2 ho
 simp only at hr hic htk hr2 hlt2 ho ⊢
 rcases hq2 : R (advS s1) with ⟨⟨b, r⟩, s2⟩
 rw [hq2] at htk hr2 ho
 simp only at htk hr2 ho ⊢
 generalize xf T e s2 (⟨#[41]⟩ : ByteArray) = s3 at *
 clear hq hq2
 unfold advS at *
 unfold nS at *
 rw [xn, xb, xb] at hr hr2
 rw [xb, xb] at htk
 rw [xg] at his hic
 rw [xE, List.map_cons, List.map_cons, List.map_nil, xn, xn] at ho
 rw [xE, List.map_cons, List.map_cons, List.map_nil, xn, xn, xb, xb]
 refine FI PM Tryz.func277 Tryz.ntmps277 [] rfl rfl ?_
 (have hWf := w8 @xe @xd @f1 @f2 @f3 @f4 @n0 @n1; repeat' (first | refine zS ?_ | refine zI ?_ ?_ | refine zK (ht) ?_ | refine zK (hb) ?_ | refine zK (his) ?_ | refine zH hr ?_ | refine zK (hic) ?_ | refine zH hr2 ?_ | refine zH ho ?_ | refine zH htk ?_ | exact zF0 | refine zD fun hb => ?_ | exact zC | refine zT ?_ | fail))
 all_goals rfl
theorem UB (hT : T.length <= 10000) (hRb : ∀ s, EB T s (R s)) (d : Int) (hd : 0 <= d /\ d <= 1000) (hR : CExp T e R (d + 1)) (s : PS) (hs : WF T s) : EA T e d s (zg T e R s) := by
 unfold zg
 by_cases h0 : begT (tokS T e s) = true
 ·rw [if_pos h0]
  have w1 : WF T (advS s) := (Mo.adv (vN h0)).wf hs
  by_cases h1 : (tokS T e s).kind = 1
  ·rw [if_pos h1]; exact eatom_int hT d s h0 h1
  rw [if_neg h1]
  by_cases h2 : (tokS T e s).kind = 2
  ·rw [if_pos h2]; exact eatom_str hT d s h0 h2
  rw [if_neg h2]
  by_cases h3 : (tokS T e s).kind = 3
  ·rw [if_pos h3]; exact eatom_var hT d s h0 h3
  rw [if_neg h3]
  by_cases h4 : (tokS T e s).kind = 4
  ·rw [if_pos h4]; exact eatom_con hT d s h0 h4
  rw [if_neg h4]
  by_cases h5 : ((tokS T e s).s.toList == ((⟨#[91]⟩ : ByteArray)).toList) = true
  ·rw [if_pos h5]; exact eatom_nil hT d hd s h0 h1 h2 h3 h4 h5
  rw [if_neg h5]
  have n5 := Bool.eq_false_iff.2 h5
  by_cases h6 : ((tokS T e s).s.toList == ((⟨#[40]⟩ : ByteArray)).toList) = true
  ·rw [if_pos h6]
   by_cases h7 : isS T e (advS s) (⟨#[41]⟩ : ByteArray) = true
   ·rw [if_pos h7]; exact xam hT d hd s h0 h1 h2 h3 h4 n5 h6 h7
   rw [if_neg h7]
   have n7 := Bool.eq_false_iff.2 h7
   rcases hq : R (advS s) with ⟨a, s1⟩
   have m1 := (hRb (advS s)).1
   simp only
   by_cases h8 : isS T e s1 (⟨#[44]⟩ : ByteArray) = true
   ·rw [if_pos h8]
    rcases hq2 : R (advS s1) with ⟨b, s2⟩
    simp only
    have w2 : WF T (advS (R (advS s)).2) := by
     rw [hq] at m1 ⊢
     exact (Mo.advS h8 (xa (l := [44]) (by simp))).wf (m1.wf w1)
    have := xal hT d hd s h0 h1 h2 h3 h4 n5 h6 n7 hR w1 (by rw [hq]; exact h8) w2
    rw [hq] at this
    simp only at this
    rw [hq2] at this
    exact this
   ·rw [if_neg h8]
    have := eatom_par hT d hd s h0 h1 h2 h3 h4 n5 h6 n7 hR w1 (by rw [hq]; exact Bool.eq_false_iff.2 h8)
    rw [hq] at this
    exact this
  rw [if_neg h6]
  exact eatom_oth hT d hd s h0 h1 h2 h3 h4 n5 (Bool.eq_false_iff.2 h6)
 ·rw [if_neg h0]; exact eatom_no d s (Bool.eq_false_iff.2 h0)
end
section
variable {T : List MTok} {e : Int} {R : PS -> ET × PS}
theorem appF_go {n : Nat} {bare : Bool} {a : ET} {s : PS} (h : s.code = 0 /\ begT (tokS T e s) = true) : appF T e R (n + 1) bare a s = appF T e R n false (if bare = true then kidT a (zg T e R s).1 else eN 6 (tokS T e s).at_ nS [a, (zg T e R s).1]) (zg T e R s).2 := by
 conv => lhs; unfold appF
 rw [if_pos h]
theorem appF_stop {n : Nat} {bare : Bool} {a : ET} {s : PS} (h : ¬ (s.code = 0 /\ begT (tokS T e s) = true)) : appF T e R n bare a s = (a, s) := by
 cases n with
 | zero => rfl
 | succ n => unfold appF; rw [if_neg h]
def appN (bare : Bool) (p k : Nat) : Prop := (p = 6015 /\ k = 7015) \/ (bare = false /\ ((p = 6039 /\ k = 7039) \/ (p = 6015 /\ k = 33)))
theorem c_l03App (hT : T.length <= 10000) (hRb : ∀ s, EB T s (R s)) (d : Int) (hd : 0 <= d /\ d <= 1000) (hR : CExp T e R (d + 1)) (s : PS) (hs : WF T s) : FCon Tryz.prog 276 [.opt (rdD T e s), .s (.int .i64 d)] (fun x o => x = .ag (eV (appS T e R s).1) /\ o = [.opt (rdD T e (appS T e R s).2), .un]) := by
 have ht := xj T e s
 have ha := UB hT hRb d hd hR s hs
 have m0 := (Xx hRb (e := e) s).1
 unfold EA at ha
 conv => rhs; unfold appS
 rcases hq : zg T e R s with ⟨a, s1⟩
 rw [hq] at ha m0
 simp only at ha m0 ⊢
 have w0 := m0.wf hs
 generalize hbare : decide ((tokS T e s).kind = 4) = bare
 have hbe : ((tokS T e s).kind == 4) = bare := by rw [<- hbare]; rfl
 obtain ⟨rr, hrr⟩ : ∃ r, appF T e R (T.length + 1) bare a s1 = r := ⟨_, rfl⟩
 rw [hrr]
 generalize tokS T e s = t at *
 rw [MTok.enc_eq, xg] at ht
 obtain ⟨b, l⟩ := a
 rw [xn, xb, xb] at ha
 rw [xb]
 clear hq hbare
 refine FI PM Tryz.func276 Tryz.ntmps276 [] rfl rfl ?_
 (have hWf := w3 @xe @xd @hbe; repeat' (first | refine zS ?_ | refine zI ?_ ?_ | refine zK (ht) ?_ | refine zH ha ?_ | exact zF0 | refine zD fun hb => ?_ | exact zC | refine zT ?_ | fail))
 refine xk (fun n σ => ∃ (j p q : Nat) (bare : Bool) (b : EI) (l : List ET) (s' : PS), appN bare p q /\ n = T.length - s'.i /\ T.length - s'.i < j /\ WF T s' /\ appF T e R j bare (.mk b l) s' = rr /\ σ.t 0 = .bx 900000 0 /\ σ.b 900000 = some (.box [.sl 4 (T.map MTok.enc), .s (.int .i64 s'.i), .s (.int .i64 e), .s (.int .i64 s'.code), .s (.int .i64 s'.at_), .sl 1 (s'.vars.map iE), .bs 7900000 1 s'.seen.length]) /\ σ.b 7900000 = some (.arr 9 1 (s'.seen.map stE)) /\ σ.t 1 = .s (.int .i64 d) /\ σ.t 4 = .bx 4 0 /\ σ.b 4 = some (.box [.s (.int .i64 0), .s (.int .i64 0), .s (.int .i64 0), .s (.string ⟨#[]⟩), .nil, .nil, .nil]) /\ σ.t 5 = .s (.bool bare) /\ σ.t 6 = .bx 6 0 /\ σ.b 6 = some (.box [.s (.int .i64 b.kind), .s (.int .i64 b.at_), .s (.int .i64 b.n), .s (.string b.s), .nil, .bs p 1 b.pats.length, .bs q 7 l.length]) /\ σ.b p = some (.arr 89 1 (b.pats.map MPat.own)) /\ σ.b q = some (.arr 58 7 (l.map eV))) (T.length - s1.i) ⟨T.length + 1, 6015, 7015, bare, b, l, s1, .inl ⟨rfl, rfl⟩, rfl, by omega, w0, hrr, ?_⟩ ?_
 ·simp only [go_sem, simprocAttr]
  done
 ·rintro m σ ⟨j, p, q, bare, b, l, s', hnm, rfl, hj, hw, hap, h0, b9, b7, h1, h4, b4, h5, h6, b6, bp, bq⟩ K' hK
  have hbg := yf T e s'
  rw [xg] at hbg
  by_cases hc : s'.code = 0 /\ begT (tokS T e s') = true
  ·obtain ⟨j, rfl⟩ : ∃ q, j = q + 1 := ⟨j - 1, by omega⟩
   have hlt := vN hc.2
   have f0 := kT hc.1
   have het := Vw hRb (e := e) hc.2
   have m1 := (Xx hRb (e := e) s').1
   have ht' := xj T e s'
   have ha' := UB hT hRb d hd hR s' hw
   have w1 := m1.wf hw
   rw [appF_go hc] at hap
   rw [hc.2] at hbg
   unfold EA at ha'
   rcases hq : zg T e R s' with ⟨⟨c, r⟩, s2⟩
   rw [hq] at ha' hap het m1 w1
   simp only at ha' hap het m1 w1
   have ho := xS 6 (tokS T e s').at_ nS [.mk b l, .mk c r]
   generalize tokS T e s' = u at *
   rw [MTok.enc_eq, xg] at ht'
   rw [xn, xb, xb] at ha'
   rw [xE, List.map_cons, List.map_cons, List.map_nil, xn, xn] at ho
   have hf0 := het.2
   cases bare with
   | true =>
    rw [if_pos rfl] at hap
    obtain ⟨rfl, rfl⟩ : p = 6015 /\ q = 7015 := by
     rcases hnm with h | ⟨h, -⟩
     ·exact h
     ·cases h
    (have hWf := w14 @h0 @b9 @b7 @h1 @h4 @b4 @h5 @h6 @b6 @bp @bq @xe @xd @f0; repeat' (first | refine zS ?_ | refine zI ?_ ?_ | refine zK (hbg) ?_ | refine zK (ht') ?_ | refine zH ha' ?_ | exact zF0 | refine zD fun hb => ?_ | exact zC | refine zT ?_ | fail))
    refine hK (T.length - s2.i) _ (by omega) ⟨j, 6015, 33, false, b, [.mk c r], s2, .inr ⟨rfl, .inr ⟨rfl, rfl⟩⟩, rfl, by omega, w1, hap, ?_⟩
    simp only [go_sem, simprocAttr, h0, b9, b7, h1, h4, b4, h5, h6, b6, bp, bq, xe, xd, List.map_cons, List.map_nil, xn]
    done
   | false =>
    rw [if_neg (by decide)] at hap
    unfold nS at ho
    rcases hnm with ⟨rfl, rfl⟩ | ⟨hbr, ⟨rfl, rfl⟩ | ⟨rfl, rfl⟩⟩
    all_goals
     (have hWf := w14 @h0 @b9 @b7 @h1 @h4 @b4 @h5 @h6 @b6 @bp @bq @xe @xd @f0; repeat' (first | refine zS ?_ | refine zI ?_ ?_ | refine zK (hbg) ?_ | refine zK (ht') ?_ | refine zH ha' ?_ | refine zH ho ?_ | exact zF0 | refine zD fun hb => ?_ | exact zC | refine zT ?_ | fail))
     refine hK (T.length - s2.i) _ (by omega) ⟨j, 6039, 7039, false, ⟨6, u.at_, 0, nS, []⟩, [.mk b l, .mk c r], s2, .inr ⟨rfl, .inl ⟨rfl, rfl⟩⟩, rfl, by omega, w1, hap, ?_⟩
     simp only [go_sem, simprocAttr, h0, b9, b7, h1, h4, b4, h5, h6, b6, bp, bq, xe, xd, List.map_cons, List.map_nil, xn]
     rfl
  ·rw [appF_stop hc] at hap
   subst hap
   simp only
   rw [xn, xb]
   rcases hnm with ⟨rfl, rfl⟩ | ⟨hbr, ⟨rfl, rfl⟩ | ⟨rfl, rfl⟩⟩
   all_goals
    rcases Bool.eq_false_or_eq_true (s'.code == 0) with f0 | f0
    ·have hbf : begT (tokS T e s') = false := by
      cases z : begT (tokS T e s') with
      | false => rfl
      | true => exact absurd ⟨by simpa using f0, z⟩ hc
     rw [hbf] at hbg
     (have hWf := w14 @h0 @b9 @b7 @h1 @h4 @b4 @h5 @h6 @b6 @bp @bq @xe @xd @f0; repeat' (first | refine zS ?_ | refine zI ?_ ?_ | refine zK (hbg) ?_ | exact zF0 | refine zD fun hb => ?_ | exact zC | refine zT ?_ | fail))
     done
    ·(have hWf := w14 @h0 @b9 @b7 @h1 @h4 @b4 @h5 @h6 @b6 @bp @bq @xe @xd @f0; repeat' (first | refine zS ?_ | refine zI ?_ ?_ | refine zK (hbg) ?_ | exact zF0 | refine zD fun hb => ?_ | exact zC | refine zT ?_ | fail))
     done
end
theorem Rep.rowsW {S : Nat -> Prop} {up : Nat -> Option Pos} {w : World} {p : Option Pos} {e k : Nat} {rows rows' : List (List D)} {v : Value} (h : Rep S up w p (.osl e k rows) v) (hl : rows'.length = rows.length)
  (hr : ∀ (i : Nat) (row' : List D), rows'[i]? = some row' -> ∃ row, rows[i]? = some row /\ row'.length = row.length /\ ∀ (j : Nat) (d' : D), row'[j]? = some d' -> ∃ d, row[j]? = some d /\ nwD d d') : Rep S up w p (.osl e k rows') v := by
 cases h with
 | osl0 =>
  obtain rfl := List.length_eq_zero_iff.1 hl
  exact .osl0
 | osl cs q1 q2 q3 q4 q5 q6 q7 =>
  rw [<- hl] at q3 ⊢
  refine .osl cs q1 q2 q3 q4 q5 (fun i row' hi => ?_) (fun i j row' d' hi hj => ?_)
  ·obtain ⟨row, h1, h2, -⟩ := hr i row' hi
   rw [h2]; exact q6 i row h1
  ·obtain ⟨row, h1, -, h3⟩ := hr i row' hi
   obtain ⟨d, h4, h5⟩ := h3 j d' hj
   have := q7 i j row d h1 h4
   rcases h5 with rfl | ⟨rfl, ⟨k', rfl⟩ | ⟨e', k', rfl⟩⟩
   ·exact this
   ·exact Rep.nil_sl k' this
   ·exact Rep.nil_osl e' k' this
def zrow (k a : Int) : List D := [.s (.int .i64 k), .s (.int .i64 a), .s (.int .i64 0), .s (.string nS), .nil, .nil, .nil]
theorem c_l03OneM (k k1 a : Int) (s : ByteArray) (t : ET) : FCon Tryz.prog 154 [.s (.int .i64 k), .s (.int .i64 a), .s (.string s), .osl 58 7 [zrow k1 a, eV t]] (fun r o => r = .ag (eV (eN k a s [eN k1 a nS [], t])) /\ o = [.un, .un, .un, .un]) := by
 have hz : FCon Tryz.prog 154 [.s (.int .i64 k), .s (.int .i64 a), .s (.string s), .osl 58 7 [zrow k1 a, eV t]] (fun r o => r = .ag [.s (.int .i64 k), .s (.int .i64 a), .s (.int .i64 0), .s (.string s), .nil, .nil, .osl 58 7 [zrow k1 a, eV t]] /\ o = [.un, .un, .un, .un]) := by
  generalize zrow k1 a = z
  generalize eV t = z'
  refine FI PM Tryz.func154 Tryz.ntmps154 [] rfl rfl ?_
  (have hWf := f0; repeat' (first | refine zS ?_ | refine zI ?_ ?_ | exact zF0 | refine zD fun hb => ?_ | exact zC | refine zT ?_ | fail))
 rw [xE, List.map_cons, List.map_cons, List.map_nil, xE, List.map_nil]
 refine hz.wk fun r o' e => ?_
 obtain ⟨rfl, rfl⟩ := e
 refine ⟨_, ⟨rfl, rfl⟩, fun g w v q => ?_⟩
 obtain ⟨us, rfl, h1, h2⟩ := q
 refine ⟨us, rfl, h1, fun j y u hy hu => ?_⟩
 match j, hy with
 | 0, hy => exact h2 0 y u hy hu
 | 1, hy => exact h2 1 y u hy hu
 | 2, hy => exact h2 2 y u hy hu
 | 3, hy => exact h2 3 y u hy hu
 | 4, hy => exact h2 4 y u hy hu
 | 5, hy =>
  obtain rfl := Option.some.inj hy
  exact Rep.nil_osl _ 1 (h2 5 .nil u rfl hu)
 | 6, hy =>
  obtain rfl := Option.some.inj hy
  refine Rep.rowsW (rows := [zrow k1 a, eV t]) (h2 6 _ u rfl hu) rfl fun i row' hi => ?_
  match i, hi with
  | 0, hi =>
   obtain rfl := Option.some.inj hi
   refine ⟨_, rfl, rfl, fun j d' hj => ?_⟩
   match j, hj with
   | 0, hj => exact ⟨_, rfl, .inl (Option.some.inj hj).symm⟩
   | 1, hj => exact ⟨_, rfl, .inl (Option.some.inj hj).symm⟩
   | 2, hj => exact ⟨_, rfl, .inl (Option.some.inj hj).symm⟩
   | 3, hj => exact ⟨_, rfl, .inl (Option.some.inj hj).symm⟩
   | 4, hj => exact ⟨_, rfl, .inl (Option.some.inj hj).symm⟩
   | 5, hj => exact ⟨_, rfl, .inr ⟨rfl, .inr ⟨_, 1, (Option.some.inj hj).symm⟩⟩⟩
   | 6, hj => exact ⟨_, rfl, .inr ⟨rfl, .inr ⟨_, 7, (Option.some.inj hj).symm⟩⟩⟩
  | 1, hi =>
   obtain rfl := Option.some.inj hi
   exact ⟨_, rfl, rfl, fun j d' hj => ⟨d', hj, .inl rfl⟩⟩
section
variable {T : List MTok} {e : Int} {R : PS -> ET × PS}
def EU (T : List MTok) (e : Int) (d : Int) (s : PS) (r : ET × PS) : Prop := FCon Tryz.prog 272 [.opt (rdD T e s), .s (.int .i64 d)] (fun x o => x = .ag (eV r.1) /\ o = [.opt (rdD T e r.2), .un])
theorem eun_0 (hT : T.length <= 10000) (d : Int) (hd : 0 <= d /\ d <= 1000) (s : PS) (h : isS T e s (⟨#[114, 97, 105, 115, 101]⟩ : ByteArray) = true) {a : ET} {s1 : PS} (hi : EU T e d (advS s) (a, s1)) : EU T e d s (eN 14 (tokS T e s).at_ nS [a], s1) := by
 have ht := xj T e s
 have hg := xz (tokS T e s)
 have hlt := (xt h (xa (l := [114, 97, 105, 115, 101]) (by simp))).2
 have ho := xS 14 (tokS T e s).at_ nS [a]
 unfold EU at *
 simp only [x5] at *
 generalize tokS T e s = t at *
 rw [MTok.enc_eq, xg] at ht
 rw [MTok.enc_eq] at hg
 obtain ⟨b, l⟩ := a
 unfold advS at hi
 rw [xE, List.map_cons, List.map_nil, xn] at ho
 rw [xn, xb, xb] at hi
 rw [xE, List.map_cons, List.map_nil, xn, xb, xb]
 unfold nS at *
 refine FI PM Tryz.func272 Tryz.ntmps272 [] rfl rfl ?_
 (have hWf := w3 @xe @xd @h; repeat' (first | refine zS ?_ | refine zI ?_ ?_ | refine zK (ht) ?_ | refine zK (hg) ?_ | refine zH hi ?_ | refine zH ho ?_ | exact zF0 | refine zD fun hb => ?_ | exact zC | refine zT ?_ | fail))
 all_goals rfl
theorem eun_1 (hT : T.length <= 10000) (d : Int) (hd : 0 <= d /\ d <= 1000) (s : PS) (n0 : isS T e s (⟨#[114, 97, 105, 115, 101]⟩ : ByteArray) = false) (h : isS T e s (⟨#[114, 101, 102]⟩ : ByteArray) = true) {a : ET} {s1 : PS} (hi : EU T e d (advS s) (a, s1)) : EU T e d s (eN 16 (tokS T e s).at_ nS [a], s1) := by
 have ht := xj T e s
 have hg := xz (tokS T e s)
 have hlt := (xt h (xa (l := [114, 101, 102]) (by simp))).2
 have ho := xS 16 (tokS T e s).at_ nS [a]
 unfold EU at *
 simp only [x5] at *
 generalize tokS T e s = t at *
 rw [MTok.enc_eq, xg] at ht
 rw [MTok.enc_eq] at hg
 obtain ⟨b, l⟩ := a
 unfold advS at hi
 rw [xE, List.map_cons, List.map_nil, xn] at ho
 rw [xn, xb, xb] at hi
 rw [xE, List.map_cons, List.map_nil, xn, xb, xb]
 unfold nS at *
 refine FI PM Tryz.func272 Tryz.ntmps272 [] rfl rfl ?_
 (have hWf := w4 @xe @xd @n0 @h; repeat' (first | refine zS ?_ | refine zI ?_ ?_ | refine zK (ht) ?_ | refine zK (hg) ?_ | refine zH hi ?_ | refine zH ho ?_ | exact zF0 | refine zD fun hb => ?_ | exact zC | refine zT ?_ | fail))
 all_goals rfl
theorem eun_2 (hT : T.length <= 10000) (d : Int) (hd : 0 <= d /\ d <= 1000) (s : PS) (n0 : isS T e s (⟨#[114, 97, 105, 115, 101]⟩ : ByteArray) = false) (n1 : isS T e s (⟨#[114, 101, 102]⟩ : ByteArray) = false) (h : isS T e s (⟨#[33]⟩ : ByteArray) = true) {a : ET} {s1 : PS} (hi : EU T e d (advS s) (a, s1)) : EU T e d s (eN 17 (tokS T e s).at_ nS [a], s1) := by
 have ht := xj T e s
 have hg := xz (tokS T e s)
 have hlt := (xt h (xa (l := [33]) (by simp))).2
 have ho := xS 17 (tokS T e s).at_ nS [a]
 unfold EU at *
 simp only [x5] at *
 generalize tokS T e s = t at *
 rw [MTok.enc_eq, xg] at ht
 rw [MTok.enc_eq] at hg
 obtain ⟨b, l⟩ := a
 unfold advS at hi
 rw [xE, List.map_cons, List.map_nil, xn] at ho
 rw [xn, xb, xb] at hi
 rw [xE, List.map_cons, List.map_nil, xn, xb, xb]
 unfold nS at *
 refine FI PM Tryz.func272 Tryz.ntmps272 [] rfl rfl ?_
 (have hWf := w5 @xe @xd @n0 @n1 @h; repeat' (first | refine zS ?_ | refine zI ?_ ?_ | refine zK (ht) ?_ | refine zK (hg) ?_ | refine zH hi ?_ | refine zH ho ?_ | exact zF0 | refine zD fun hb => ?_ | exact zC | refine zT ?_ | fail))
 all_goals rfl
theorem eun_3 (hT : T.length <= 10000) (d : Int) (hd : 0 <= d /\ d <= 1000) (s : PS) (n0 : isS T e s (⟨#[114, 97, 105, 115, 101]⟩ : ByteArray) = false) (n1 : isS T e s (⟨#[114, 101, 102]⟩ : ByteArray) = false) (n2 : isS T e s (⟨#[33]⟩ : ByteArray) = false) (h : isS T e s (⟨#[45]⟩ : ByteArray) = true) {a : ET} {s1 : PS} (hi : EU T e d (advS s) (a, s1)) : EU T e d s (eN 10 (tokS T e s).at_ (⟨#[45]⟩ : ByteArray) [eN 1 (tokS T e s).at_ nS [], a], s1) := by
 have ht := xj T e s
 have hg := xz (tokS T e s)
 have hlt := (xt h (xa (l := [45]) (by simp))).2
 have ho := c_l03OneM 10 1 (tokS T e s).at_ (⟨#[45]⟩ : ByteArray) a
 unfold EU at *
 simp only [x5] at *
 generalize tokS T e s = t at *
 rw [MTok.enc_eq, xg] at ht
 rw [MTok.enc_eq] at hg
 obtain ⟨b, l⟩ := a
 unfold advS at hi
 unfold zrow at ho
 rw [xE, List.map_cons, List.map_cons, List.map_nil, xE, List.map_nil, xn] at ho
 rw [xn, xb, xb] at hi
 rw [xE, List.map_cons, List.map_cons, List.map_nil, xE, List.map_nil, xn, xb, xb]
 unfold nS at *
 refine FI PM Tryz.func272 Tryz.ntmps272 [] rfl rfl ?_
 (have hWf := w6 @xe @xd @n0 @n1 @n2 @h; repeat' (first | refine zS ?_ | refine zI ?_ ?_ | refine zK (ht) ?_ | refine zK (hg) ?_ | refine zH hi ?_ | refine zH ho ?_ | exact zF0 | refine zD fun hb => ?_ | exact zC | refine zT ?_ | fail))
 all_goals rfl
theorem eun_app (d : Int) (hd : 0 <= d /\ d <= 1000) (s : PS) (n0 : isS T e s (⟨#[114, 97, 105, 115, 101]⟩ : ByteArray) = false) (n1 : isS T e s (⟨#[114, 101, 102]⟩ : ByteArray) = false) (n2 : isS T e s (⟨#[33]⟩ : ByteArray) = false) (n3 : isS T e s (⟨#[45]⟩ : ByteArray) = false) (hi : FCon Tryz.prog 276 [.opt (rdD T e s), .s (.int .i64 d)] (fun x o => x = .ag (eV (appS T e R s).1) /\ o = [.opt (rdD T e (appS T e R s).2), .un])) : EU T e d s (appS T e R s) := by
 have ht := xj T e s
 have hg := xz (tokS T e s)
 unfold EU at *
 rcases hq : appS T e R s with ⟨⟨b, l⟩, s1⟩
 rw [hq] at hi
 simp only [x5] at *
 generalize tokS T e s = t at *
 rw [MTok.enc_eq, xg] at ht
 rw [MTok.enc_eq] at hg
 rw [xn, xb, xb] at hi
 rw [xn, xb, xb]
 refine FI PM Tryz.func272 Tryz.ntmps272 [] rfl rfl ?_
 (have hWf := w6 @xe @xd @n0 @n1 @n2 @n3; repeat' (first | refine zS ?_ | refine zI ?_ ?_ | refine zK (ht) ?_ | refine zK (hg) ?_ | refine zH hi ?_ | exact zF0 | refine zD fun hb => ?_ | exact zC | refine zT ?_ | fail))
 all_goals rfl
theorem c_l03Un (hT : T.length <= 10000) (hRb : ∀ s, EB T s (R s)) (d : Int) (hd : 0 <= d /\ d <= 1000) (hR : CExp T e R (d + 1)) : ∀ (n : Nat) (s : PS), T.length - s.i < n -> WF T s -> EU T e d s (unF T e R n s) := fun n => by
 induction n with
 | zero => intro s h; omega
 | succ n ih =>
  intro s hn hs
  unfold unF
  by_cases h0 : isS T e s (⟨#[114, 97, 105, 115, 101]⟩ : ByteArray) = true
  ·rw [if_pos h0]
   have hlt := (xt h0 (xa (l := [114, 97, 105, 115, 101]) (by simp))).2
   have hi := ih (advS s) (by show T.length - (s.i + 1) < n; omega) ((Mo.advS h0 (xa (l := [114, 97, 105, 115, 101]) (by simp))).wf hs)
   rcases hq : unF T e R n (advS s) with ⟨a, s1⟩
   rw [hq] at hi
   exact eun_0 hT d hd s h0 hi
  rw [if_neg h0]
  have n0 := Bool.eq_false_iff.2 h0
  by_cases h1 : isS T e s (⟨#[114, 101, 102]⟩ : ByteArray) = true
  ·rw [if_pos h1]
   have hlt := (xt h1 (xa (l := [114, 101, 102]) (by simp))).2
   have hi := ih (advS s) (by show T.length - (s.i + 1) < n; omega) ((Mo.advS h1 (xa (l := [114, 101, 102]) (by simp))).wf hs)
   rcases hq : unF T e R n (advS s) with ⟨a, s1⟩
   rw [hq] at hi
   exact eun_1 hT d hd s n0 h1 hi
  rw [if_neg h1]
  have n1 := Bool.eq_false_iff.2 h1
  by_cases h2 : isS T e s (⟨#[33]⟩ : ByteArray) = true
  ·rw [if_pos h2]
   have hlt := (xt h2 (xa (l := [33]) (by simp))).2
   have hi := ih (advS s) (by show T.length - (s.i + 1) < n; omega) ((Mo.advS h2 (xa (l := [33]) (by simp))).wf hs)
   rcases hq : unF T e R n (advS s) with ⟨a, s1⟩
   rw [hq] at hi
   exact eun_2 hT d hd s n0 n1 h2 hi
  rw [if_neg h2]
  have n2 := Bool.eq_false_iff.2 h2
  by_cases h3 : isS T e s (⟨#[45]⟩ : ByteArray) = true
  ·rw [if_pos h3]
   have hlt := (xt h3 (xa (l := [45]) (by simp))).2
   have hi := ih (advS s) (by show T.length - (s.i + 1) < n; omega) ((Mo.advS h3 (xa (l := [45]) (by simp))).wf hs)
   rcases hq : unF T e R n (advS s) with ⟨a, s1⟩
   rw [hq] at hi
   exact eun_3 hT d hd s n0 n1 n2 h3 hi
  rw [if_neg h3]
  have n3 := Bool.eq_false_iff.2 h3
  exact eun_app d hd s n0 n1 n2 n3 (c_l03App hT hRb d hd hR s hs)
end
section
variable {T : List MTok} {e : Int} {R : PS -> ET × PS}
theorem left_go {L : List ByteArray} {Q : PS -> ET × PS} {n : Nat} {a : ET} {s : PS} (h : s.code = 0 /\ inT (tokS T e s) L = true) : zo T e L Q (n + 1) a s = zo T e L Q n (eN 10 (tokS T e s).at_ (tokS T e s).s [a, (Q (advS s)).1]) (Q (advS s)).2 := by
 conv => lhs; unfold zo
 rw [if_pos h]
theorem UY {L : List ByteArray} {Q : PS -> ET × PS} {n : Nat} {a : ET} {s : PS} (h : ¬ (s.code = 0 /\ inT (tokS T e s) L = true)) : zo T e L Q n a s = (a, s) := by
 cases n with
 | zero => rfl
 | succ n => unfold zo; rw [if_neg h]
def EL (T : List MTok) (e : Int) (d lv : Int) (s : PS) (r : ET × PS) : Prop := FCon Tryz.prog 265 [.opt (rdD T e s), .s (.int .i64 d), .s (.int .i64 lv)] (fun x o => x = .ag (eV r.1) /\ o = [.opt (rdD T e r.2), .un, .un])
theorem Wx (hT : T.length <= 10000) (hRb : ∀ s, EB T s (R s)) (d : Int) (hd : 0 <= d /\ d <= 1000) (hR : CExp T e R (d + 1)) (s : PS) (hs : WF T s) : EL T e d 0 s (z7 T e R s) := by
 have ha := c_l03Un hT hRb d hd hR (T.length + 1) s (by omega) hs
 have m0 := (un_b hRb (e := e) (T.length + 1) s).1
 unfold EL
 conv => rhs; unfold z7
 unfold EU at ha
 rcases hq : unF T e R (T.length + 1) s with ⟨a, s1⟩
 rw [hq] at ha m0
 simp only at ha m0 ⊢
 have w0 := m0.wf hs
 obtain ⟨rr, hrr⟩ : ∃ r, zo T e [(⟨#[42]⟩ : ByteArray), (⟨#[47]⟩ : ByteArray), (⟨#[37]⟩ : ByteArray)] (unF T e R (T.length + 1)) (T.length + 1) a s1 = r := ⟨_, rfl⟩
 rw [hrr]
 obtain ⟨b, l⟩ := a
 rw [xn, xb, xb] at ha
 rw [xb]
 clear hq
 refine FI PM Tryz.func265 Tryz.ntmps265 [] rfl rfl ?_
 (have hWf := w2 @xe @xd; repeat' (first | refine zS ?_ | refine zI ?_ ?_ | refine zH ha ?_ | exact zF0 | refine zD fun hb => ?_ | exact zC | refine zT ?_ | fail))
 refine xk (fun n σ => ∃ (j p q : Nat) (b : EI) (l : List ET) (s' : PS), ((p = 6021 /\ q = 7021) \/ (p = 6057 /\ q = 7057)) /\ n = T.length - s'.i /\ T.length - s'.i < j /\ WF T s' /\ zo T e [(⟨#[42]⟩ : ByteArray), (⟨#[47]⟩ : ByteArray), (⟨#[37]⟩ : ByteArray)] (unF T e R (T.length + 1)) j (.mk b l) s' = rr /\ σ.t 0 = .bx 900000 0 /\ σ.b 900000 = some (.box [.sl 4 (T.map MTok.enc), .s (.int .i64 s'.i), .s (.int .i64 e), .s (.int .i64 s'.code), .s (.int .i64 s'.at_), .sl 1 (s'.vars.map iE), .bs 7900000 1 s'.seen.length]) /\ σ.b 7900000 = some (.arr 9 1 (s'.seen.map stE)) /\ σ.t 1 = .s (.int .i64 d) /\ σ.t 2 = .s (.int .i64 0) /\ σ.t 6 = .bx 6 0 /\ σ.b 6 = some (.box [.s (.int .i64 0), .s (.int .i64 0), .s (.int .i64 0), .s (.string ⟨#[]⟩), .nil, .nil, .nil]) /\ σ.t 7 = .bs 11 1 3 /\ σ.b 11 = some (.arr 9 1 [[.s (.string (⟨#[42]⟩ : ByteArray))], [.s (.string (⟨#[47]⟩ : ByteArray))], [.s (.string (⟨#[37]⟩ : ByteArray))]]) /\ σ.t 8 = .bx 8 0 /\ σ.b 8 = some (.box [.s (.int .i64 b.kind), .s (.int .i64 b.at_), .s (.int .i64 b.n), .s (.string b.s), .nil, .bs p 1 b.pats.length, .bs q 7 l.length]) /\ σ.b p = some (.arr 89 1 (b.pats.map MPat.own)) /\ σ.b q = some (.arr 58 7 (l.map eV))) (T.length - s1.i) ⟨T.length + 1, 6021, 7021, b, l, s1, .inl ⟨rfl, rfl⟩, rfl, by omega, w0, hrr, ?_⟩ ?_
 ·simp only [go_sem, simprocAttr]
  done
 ·rintro m σ ⟨j, p, q, b, l, s', hnm, rfl, hj, hw, hap, h0, b9, b7, h1, h2, h6, b6, ht7, bs, h8, b8, bp, bq⟩ K' hK
  have hin := uj T e s' [(⟨#[42]⟩ : ByteArray), (⟨#[47]⟩ : ByteArray), (⟨#[37]⟩ : ByteArray)] (by decide)
  simp only [List.map_cons, List.map_nil, yH] at hin
  rw [xg] at hin
  by_cases hc : s'.code = 0 /\ inT (tokS T e s') [(⟨#[42]⟩ : ByteArray), (⟨#[47]⟩ : ByteArray), (⟨#[37]⟩ : ByteArray)] = true
  ·obtain ⟨j, rfl⟩ : ∃ q, j = q + 1 := ⟨j - 1, by omega⟩
   have hlt := (xK (uf (by simp only [List.mem_cons, List.not_mem_nil, or_false, forall_eq_or_imp, forall_eq]; exact ⟨xa (l := [42]) (by simp), xa (l := [47]) (by simp), xa (l := [37]) (by simp)⟩) hc.2)).2
   have f0 := kT hc.1
   have ht' := xj T e s'
   have wa : WF T (advS s') := (Mo.adv hlt).wf hw
   have hia := yg s'
   have ha' := c_l03Un hT hRb d hd hR (T.length + 1) (advS s') (by omega) wa
   have m1 := (un_b hRb (e := e) (T.length + 1) (advS s')).1
   have w1 := m1.wf wa
   rw [left_go hc] at hap
   rw [hc.2] at hin
   unfold EU at ha'
   rcases hq : unF T e R (T.length + 1) (advS s') with ⟨⟨c, r⟩, s2⟩
   rw [hq] at ha' hap m1 w1
   simp only at ha' hap m1 w1
   have hf0 := m1.1
   have ho := xS 10 (tokS T e s').at_ (tokS T e s').s [.mk b l, .mk c r]
   generalize tokS T e s' = u at *
   rw [MTok.enc_eq, xg] at ht'
   clear hq wa m1
   rw [hia] at hf0
   unfold advS at ha'
   rw [xn, xb, xb] at ha'
   rw [xE, List.map_cons, List.map_cons, List.map_nil, xn, xn] at ho
   rcases hnm with ⟨rfl, rfl⟩ | ⟨rfl, rfl⟩
   all_goals
    (have hWf := w16 @h0 @b9 @b7 @h1 @h2 @h6 @b6 @ht7 @bs @h8 @b8 @bp @bq @xe @xd @f0; repeat' (first | refine zS ?_ | refine zI ?_ ?_ | refine zK (hin) ?_ | refine zK (ht') ?_ | refine zH ha' ?_ | refine zH ho ?_ | exact zF0 | refine zD fun hb => ?_ | exact zC | refine zT ?_ | fail))
    refine hK (T.length - s2.i) _ (by omega) ⟨j, 6057, 7057, ⟨10, u.at_, 0, u.s, []⟩, [.mk b l, .mk c r], s2, .inr ⟨rfl, rfl⟩, rfl, by omega, w1, hap, ?_⟩
    simp only [go_sem, simprocAttr, h0, b9, b7, h1, h2, h6, b6, ht7, bs, h8, b8, bp, bq, xe, xd, List.map_cons, List.map_nil, xn]
    done
  ·rw [UY hc] at hap
   subst hap
   simp only
   rw [xn, xb]
   rcases hnm with ⟨rfl, rfl⟩ | ⟨rfl, rfl⟩
   all_goals
    rcases Bool.eq_false_or_eq_true (s'.code == 0) with f0 | f0
    ·have hbf : inT (tokS T e s') [(⟨#[42]⟩ : ByteArray), (⟨#[47]⟩ : ByteArray), (⟨#[37]⟩ : ByteArray)] = false := by
      cases z : inT (tokS T e s') [(⟨#[42]⟩ : ByteArray), (⟨#[47]⟩ : ByteArray), (⟨#[37]⟩ : ByteArray)] with
      | false => rfl
      | true => exact absurd ⟨by simpa using f0, z⟩ hc
     rw [hbf] at hin
     (have hWf := w16 @h0 @b9 @b7 @h1 @h2 @h6 @b6 @ht7 @bs @h8 @b8 @bp @bq @xe @xd @f0; repeat' (first | refine zS ?_ | refine zI ?_ ?_ | refine zK (hin) ?_ | exact zF0 | refine zD fun hb => ?_ | exact zC | refine zT ?_ | fail))
     done
    ·(have hWf := w16 @h0 @b9 @b7 @h1 @h2 @h6 @b6 @ht7 @bs @h8 @b8 @bp @bq @xe @xd @f0; repeat' (first | refine zS ?_ | refine zI ?_ ?_ | refine zK (hin) ?_ | exact zF0 | refine zD fun hb => ?_ | exact zC | refine zT ?_ | fail))
     done
theorem xab (hT : T.length <= 10000) (hRb : ∀ s, EB T s (R s)) (d : Int) (hd : 0 <= d /\ d <= 1000) (hR : CExp T e R (d + 1)) (s : PS) (hs : WF T s) : EL T e d 1 s (uH T e R s) := by
 have ha := Wx hT hRb d hd hR s hs
 have m0 := (vJ hRb (e := e) s).1
 unfold EL
 conv => rhs; unfold uH
 unfold EL at ha
 rcases hq : z7 T e R s with ⟨a, s1⟩
 rw [hq] at ha m0
 simp only at ha m0 ⊢
 have w0 := m0.wf hs
 obtain ⟨rr, hrr⟩ : ∃ r, zo T e [(⟨#[43]⟩ : ByteArray), (⟨#[45]⟩ : ByteArray), (⟨#[94]⟩ : ByteArray)] (z7 T e R) (T.length + 1) a s1 = r := ⟨_, rfl⟩
 rw [hrr]
 obtain ⟨b, l⟩ := a
 rw [xn, xb, xb] at ha
 rw [xb]
 clear hq
 refine FI PM Tryz.func265 Tryz.ntmps265 [] rfl rfl ?_
 (have hWf := w2 @xe @xd; repeat' (first | refine zS ?_ | refine zI ?_ ?_ | refine zH ha ?_ | exact zF0 | refine zD fun hb => ?_ | exact zC | refine zT ?_ | fail))
 refine xk (fun n σ => ∃ (j p q : Nat) (b : EI) (l : List ET) (s' : PS), ((p = 6018 /\ q = 7018) \/ (p = 6057 /\ q = 7057)) /\ n = T.length - s'.i /\ T.length - s'.i < j /\ WF T s' /\ zo T e [(⟨#[43]⟩ : ByteArray), (⟨#[45]⟩ : ByteArray), (⟨#[94]⟩ : ByteArray)] (z7 T e R) j (.mk b l) s' = rr /\ σ.t 0 = .bx 900000 0 /\ σ.b 900000 = some (.box [.sl 4 (T.map MTok.enc), .s (.int .i64 s'.i), .s (.int .i64 e), .s (.int .i64 s'.code), .s (.int .i64 s'.at_), .sl 1 (s'.vars.map iE), .bs 7900000 1 s'.seen.length]) /\ σ.b 7900000 = some (.arr 9 1 (s'.seen.map stE)) /\ σ.t 1 = .s (.int .i64 d) /\ σ.t 2 = .s (.int .i64 1) /\ σ.t 6 = .bx 6 0 /\ σ.b 6 = some (.box [.s (.int .i64 0), .s (.int .i64 0), .s (.int .i64 0), .s (.string ⟨#[]⟩), .nil, .nil, .nil]) /\ σ.t 7 = .bs 15 1 3 /\ σ.b 15 = some (.arr 9 1 [[.s (.string (⟨#[43]⟩ : ByteArray))], [.s (.string (⟨#[45]⟩ : ByteArray))], [.s (.string (⟨#[94]⟩ : ByteArray))]]) /\ σ.t 8 = .bx 8 0 /\ σ.b 8 = some (.box [.s (.int .i64 b.kind), .s (.int .i64 b.at_), .s (.int .i64 b.n), .s (.string b.s), .nil, .bs p 1 b.pats.length, .bs q 7 l.length]) /\ σ.b p = some (.arr 89 1 (b.pats.map MPat.own)) /\ σ.b q = some (.arr 58 7 (l.map eV))) (T.length - s1.i) ⟨T.length + 1, 6018, 7018, b, l, s1, .inl ⟨rfl, rfl⟩, rfl, by omega, w0, hrr, ?_⟩ ?_
 ·simp only [go_sem, simprocAttr]
  done
 ·rintro m σ ⟨j, p, q, b, l, s', hnm, rfl, hj, hw, hap, h0, b9, b7, h1, h2, h6, b6, ht7, bs, h8, b8, bp, bq⟩ K' hK
  have hin := uj T e s' [(⟨#[43]⟩ : ByteArray), (⟨#[45]⟩ : ByteArray), (⟨#[94]⟩ : ByteArray)] (by decide)
  simp only [List.map_cons, List.map_nil, yH] at hin
  rw [xg] at hin
  by_cases hc : s'.code = 0 /\ inT (tokS T e s') [(⟨#[43]⟩ : ByteArray), (⟨#[45]⟩ : ByteArray), (⟨#[94]⟩ : ByteArray)] = true
  ·obtain ⟨j, rfl⟩ : ∃ q, j = q + 1 := ⟨j - 1, by omega⟩
   have hlt := (xK (uf (by simp only [List.mem_cons, List.not_mem_nil, or_false, forall_eq_or_imp, forall_eq]; exact ⟨xa (l := [43]) (by simp), xa (l := [45]) (by simp), xa (l := [94]) (by simp)⟩) hc.2)).2
   have f0 := kT hc.1
   have ht' := xj T e s'
   have wa : WF T (advS s') := (Mo.adv hlt).wf hw
   have hia := yg s'
   have ha' := Wx hT hRb d hd hR (advS s') wa
   have m1 := (vJ hRb (e := e) (advS s')).1
   have w1 := m1.wf wa
   rw [left_go hc] at hap
   rw [hc.2] at hin
   unfold EL at ha'
   rcases hq : z7 T e R (advS s') with ⟨⟨c, r⟩, s2⟩
   rw [hq] at ha' hap m1 w1
   simp only at ha' hap m1 w1
   have hf0 := m1.1
   have ho := xS 10 (tokS T e s').at_ (tokS T e s').s [.mk b l, .mk c r]
   generalize tokS T e s' = u at *
   rw [MTok.enc_eq, xg] at ht'
   clear hq wa m1
   rw [hia] at hf0
   unfold advS at ha'
   rw [xn, xb, xb] at ha'
   rw [xE, List.map_cons, List.map_cons, List.map_nil, xn, xn] at ho
   rcases hnm with ⟨rfl, rfl⟩ | ⟨rfl, rfl⟩
   all_goals
    (have hWf := w16 @h0 @b9 @b7 @h1 @h2 @h6 @b6 @ht7 @bs @h8 @b8 @bp @bq @xe @xd @f0; repeat' (first | refine zS ?_ | refine zI ?_ ?_ | refine zK (hin) ?_ | refine zK (ht') ?_ | refine zH ha' ?_ | refine zH ho ?_ | exact zF0 | refine zD fun hb => ?_ | exact zC | refine zT ?_ | fail))
    refine hK (T.length - s2.i) _ (by omega) ⟨j, 6057, 7057, ⟨10, u.at_, 0, u.s, []⟩, [.mk b l, .mk c r], s2, .inr ⟨rfl, rfl⟩, rfl, by omega, w1, hap, ?_⟩
    simp only [go_sem, simprocAttr, h0, b9, b7, h1, h2, h6, b6, ht7, bs, h8, b8, bp, bq, xe, xd, List.map_cons, List.map_nil, xn]
    done
  ·rw [UY hc] at hap
   subst hap
   simp only
   rw [xn, xb]
   rcases hnm with ⟨rfl, rfl⟩ | ⟨rfl, rfl⟩
   all_goals
    rcases Bool.eq_false_or_eq_true (s'.code == 0) with f0 | f0
    ·have hbf : inT (tokS T e s') [(⟨#[43]⟩ : ByteArray), (⟨#[45]⟩ : ByteArray), (⟨#[94]⟩ : ByteArray)] = false := by
      cases z : inT (tokS T e s') [(⟨#[43]⟩ : ByteArray), (⟨#[45]⟩ : ByteArray), (⟨#[94]⟩ : ByteArray)] with
      | false => rfl
      | true => exact absurd ⟨by simpa using f0, z⟩ hc
     rw [hbf] at hin
     (have hWf := w16 @h0 @b9 @b7 @h1 @h2 @h6 @b6 @ht7 @bs @h8 @b8 @bp @bq @xe @xd @f0; repeat' (first | refine zS ?_ | refine zI ?_ ?_ | refine zK (hin) ?_ | exact zF0 | refine zD fun hb => ?_ | exact zC | refine zT ?_ | fail))
     done
    ·(have hWf := w16 @h0 @b9 @b7 @h1 @h2 @h6 @b6 @ht7 @bs @h8 @b8 @bp @bq @xe @xd @f0; repeat' (first | refine zS ?_ | refine zI ?_ ?_ | refine zK (hin) ?_ | exact zF0 | refine zD fun hb => ?_ | exact zC | refine zT ?_ | fail))
     done
end
section
variable {T : List MTok} {e : Int} {R : PS -> ET × PS}
def EC (T : List MTok) (e : Int) (d : Int) (s : PS) (r : ET × PS) : Prop := FCon Tryz.prog 247 [.opt (rdD T e s), .s (.int .i64 d)] (fun x o => x = .ag (eV r.1) /\ o = [.opt (rdD T e r.2), .un])
theorem econs_no (d : Int) (s : PS) {a : ET} {s1 : PS} (ha : EL T e d 1 s (a, s1)) (h : isS T e s1 (⟨#[58, 58]⟩ : ByteArray) = false) : EC T e d s (a, s1) := by
 have his := xw T e s1 (⟨#[58, 58]⟩ : ByteArray)
 rw [h] at his
 unfold EL at ha
 unfold EC
 obtain ⟨b, l⟩ := a
 rw [xg] at his
 rw [xn, xb, xb] at ha
 rw [xn, xb, xb]
 refine FI PM Tryz.func247 Tryz.ntmps247 [] rfl rfl ?_
 (have hWf := w2 @xe @xd; repeat' (first | refine zS ?_ | refine zI ?_ ?_ | refine zH ha ?_ | refine zK (his) ?_ | exact zF0 | refine zD fun hb => ?_ | exact zC | refine zT ?_ | fail))
 all_goals rfl
theorem econs_yes (hT : T.length <= 10000) (d : Int) (s : PS) {a : ET} {s1 : PS} (ha : EL T e d 1 s (a, s1)) (h : isS T e s1 (⟨#[58, 58]⟩ : ByteArray) = true) {b : ET} {s2 : PS} (hi : EC T e d (advS s1) (b, s2)) : EC T e d s (consT (tokS T e s1).at_ a b, s2) := by
 have his := xw T e s1 (⟨#[58, 58]⟩ : ByteArray)
 have ht := xj T e s1
 have hlt := (xt h (xa (l := [58, 58]) (by simp))).2
 have ho := xS 11 (tokS T e s1).at_ nS [a, b]
 have ho2 := xS 4 (tokS T e s1).at_ (⟨#[58, 58]⟩ : ByteArray) [eN 11 (tokS T e s1).at_ nS [a, b]]
 rw [h] at his
 unfold EL at ha
 unfold EC at *
 unfold consT
 generalize tokS T e s1 = t at *
 obtain ⟨a, l⟩ := a
 obtain ⟨b, r⟩ := b
 unfold advS at hi
 rw [MTok.enc_eq, xg] at ht
 rw [xg] at his
 rw [xn, xb, xb] at ha hi
 unfold nS at *
 simp only [xE, List.map_cons, List.map_nil, xn] at ho ho2 ⊢
 rw [xb, xb]
 clear h
 refine FI PM Tryz.func247 Tryz.ntmps247 [] rfl rfl ?_
 (have hWf := w2 @xe @xd; repeat' (first | refine zS ?_ | refine zI ?_ ?_ | refine zH ha ?_ | refine zK (his) ?_ | refine zK (ht) ?_ | refine zH hi ?_ | refine zH ho ?_ | refine zH ho2 ?_ | exact zF0 | refine zD fun hb => ?_ | exact zC | refine zT ?_ | fail))
 all_goals rfl
theorem UC (hT : T.length <= 10000) (hRb : ∀ s, EB T s (R s)) (d : Int) (hd : 0 <= d /\ d <= 1000) (hR : CExp T e R (d + 1)) : ∀ (n : Nat) (s : PS), T.length - s.i < n -> WF T s -> EC T e d s (wl T e R n s) := fun n => by
 induction n with
 | zero => intro s h; omega
 | succ n ih =>
  intro s hn hs
  have ha := xab hT hRb d hd hR s hs
  have m := (Ue hRb (e := e) s).1
  unfold wl
  rcases hq : uH T e R s with ⟨a, s1⟩
  rw [hq] at ha m
  simp only
  have hge := m.1
  by_cases h : isS T e s1 (⟨#[58, 58]⟩ : ByteArray) = true
  ·rw [if_pos h]
   have hlt := (xt h (xa (l := [58, 58]) (by simp))).2
   have hi := ih (advS s1) (by show T.length - (s1.i + 1) < n; simp only at hge; omega) ((Mo.advS h (xa (l := [58, 58]) (by simp))).wf (m.wf hs))
   rcases hq2 : wl T e R n (advS s1) with ⟨b, s2⟩
   rw [hq2] at hi
   exact econs_yes hT d s ha h hi
  ·rw [if_neg h]
   exact econs_no d s ha (Bool.eq_false_iff.2 h)
def ES (T : List MTok) (e : Int) (d : Int) (s : PS) (r : ET × PS) : Prop := FCon Tryz.prog 206 [.opt (rdD T e s), .s (.int .i64 d)] (fun x o => x = .ag (eV r.1) /\ o = [.opt (rdD T e r.2), .un])
theorem eset_00 (hT : T.length <= 10000) (d : Int) (s : PS) {a : ET} {s1 : PS} (ha : EC T e d s (a, s1)) (hc : inT (tokS T e s1) [(⟨#[61]⟩ : ByteArray), (⟨#[60, 62]⟩ : ByteArray), (⟨#[60]⟩ : ByteArray), (⟨#[60, 61]⟩ : ByteArray)] = false) (h : isS T e s1 (⟨#[58, 61]⟩ : ByteArray) = false) : ES T e d s (a, s1) := by
 have hin := uj T e s1 [(⟨#[61]⟩ : ByteArray), (⟨#[60, 62]⟩ : ByteArray), (⟨#[60]⟩ : ByteArray), (⟨#[60, 61]⟩ : ByteArray)] (by decide)
 simp only [List.map_cons, List.map_nil, yH] at hin
 have his := xw T e s1 (⟨#[58, 61]⟩ : ByteArray)
 rw [h] at his
 rw [hc] at hin
 unfold ES EC at *
 clear h hc
 obtain ⟨a, l⟩ := a
 rw [xg] at hin his
 rw [xn, xb, xb] at ha
 simp only [xE, List.map_cons, List.map_nil, xn] at ⊢
 rw [xb, xb]
 refine FI PM Tryz.func206 Tryz.ntmps206 [] rfl rfl ?_
 (have hWf := w2 @xe @xd; repeat' (first | refine zS ?_ | refine zI ?_ ?_ | refine zH ha ?_ | refine zK (hin) ?_ | refine zK (his) ?_ | exact zF0 | refine zD fun hb => ?_ | exact zC | refine zT ?_ | fail))
 all_goals rfl
theorem eset_01 (hT : T.length <= 10000) (d : Int) (s : PS) {a : ET} {s1 : PS} (ha : EC T e d s (a, s1)) (hc : inT (tokS T e s1) [(⟨#[61]⟩ : ByteArray), (⟨#[60, 62]⟩ : ByteArray), (⟨#[60]⟩ : ByteArray), (⟨#[60, 61]⟩ : ByteArray)] = false) (h : isS T e s1 (⟨#[58, 61]⟩ : ByteArray) = true) {c : ET} {s3 : PS} (hi : ES T e d (advS s1) (c, s3)) : ES T e d s (eN 18 (tokS T e s1).at_ nS [a, c], s3) := by
 have hin := uj T e s1 [(⟨#[61]⟩ : ByteArray), (⟨#[60, 62]⟩ : ByteArray), (⟨#[60]⟩ : ByteArray), (⟨#[60, 61]⟩ : ByteArray)] (by decide)
 simp only [List.map_cons, List.map_nil, yH] at hin
 have his := xw T e s1 (⟨#[58, 61]⟩ : ByteArray)
 rw [h] at his
 rw [hc] at hin
 have hlt := (xt h (xa (l := [58, 61]) (by simp))).2
 have ht2 := xj T e s1
 have ho2 := xS 18 (tokS T e s1).at_ nS [a, c]
 unfold ES EC at *
 clear h hc
 generalize tokS T e s1 = u at *
 obtain ⟨a, l⟩ := a
 obtain ⟨c, q⟩ := c
 unfold advS at hi
 rw [MTok.enc_eq, xg] at ht2
 rw [xg] at hin his
 rw [xn, xb, xb] at ha hi
 unfold nS at *
 simp only [xE, List.map_cons, List.map_nil, xn] at ho2 ⊢
 rw [xb, xb]
 refine FI PM Tryz.func206 Tryz.ntmps206 [] rfl rfl ?_
 (have hWf := w2 @xe @xd; repeat' (first | refine zS ?_ | refine zI ?_ ?_ | refine zH ha ?_ | refine zK (hin) ?_ | refine zK (his) ?_ | refine zK (ht2) ?_ | refine zH hi ?_ | refine zH ho2 ?_ | exact zF0 | refine zD fun hb => ?_ | exact zC | refine zT ?_ | fail))
 all_goals rfl
theorem eset_10 (hT : T.length <= 10000) (d : Int) (s : PS) {a : ET} {s1 : PS} (ha : EC T e d s (a, s1)) (hc : inT (tokS T e s1) [(⟨#[61]⟩ : ByteArray), (⟨#[60, 62]⟩ : ByteArray), (⟨#[60]⟩ : ByteArray), (⟨#[60, 61]⟩ : ByteArray)] = true) (hl1 : s1.i < T.length) {b : ET} {s2 : PS} (hb : EC T e d (advS s1) (b, s2)) (h : isS T e s2 (⟨#[58, 61]⟩ : ByteArray) = false) : ES T e d s ((eN 10 (tokS T e s1).at_ (tokS T e s1).s [a, b]), s2) := by
 have hin := uj T e s1 [(⟨#[61]⟩ : ByteArray), (⟨#[60, 62]⟩ : ByteArray), (⟨#[60]⟩ : ByteArray), (⟨#[60, 61]⟩ : ByteArray)] (by decide)
 simp only [List.map_cons, List.map_nil, yH] at hin
 have his := xw T e s2 (⟨#[58, 61]⟩ : ByteArray)
 rw [h] at his
 rw [hc] at hin
 have ht := xj T e s1
 have ho := xS 10 (tokS T e s1).at_ (tokS T e s1).s [a, b]
 unfold ES EC at *
 clear h hc
 generalize tokS T e s1 = t at *
 obtain ⟨a, l⟩ := a
 obtain ⟨b, r⟩ := b
 unfold advS at hb
 rw [MTok.enc_eq, xg] at ht
 rw [xg] at hin his
 rw [xn, xb, xb] at ha hb
 simp only [xE, List.map_cons, List.map_nil, xn] at ho ⊢
 rw [xb, xb]
 refine FI PM Tryz.func206 Tryz.ntmps206 [] rfl rfl ?_
 (have hWf := w2 @xe @xd; repeat' (first | refine zS ?_ | refine zI ?_ ?_ | refine zH ha ?_ | refine zK (hin) ?_ | refine zK (his) ?_ | refine zK (ht) ?_ | refine zH hb ?_ | refine zH ho ?_ | exact zF0 | refine zD fun hb => ?_ | exact zC | refine zT ?_ | fail))
 all_goals rfl
theorem eset_11 (hT : T.length <= 10000) (d : Int) (s : PS) {a : ET} {s1 : PS} (ha : EC T e d s (a, s1)) (hc : inT (tokS T e s1) [(⟨#[61]⟩ : ByteArray), (⟨#[60, 62]⟩ : ByteArray), (⟨#[60]⟩ : ByteArray), (⟨#[60, 61]⟩ : ByteArray)] = true) (hl1 : s1.i < T.length) {b : ET} {s2 : PS} (hb : EC T e d (advS s1) (b, s2)) (h : isS T e s2 (⟨#[58, 61]⟩ : ByteArray) = true) {c : ET} {s3 : PS} (hi : ES T e d (advS s2) (c, s3)) : ES T e d s (eN 18 (tokS T e s2).at_ nS [(eN 10 (tokS T e s1).at_ (tokS T e s1).s [a, b]), c], s3) := by
 have hin := uj T e s1 [(⟨#[61]⟩ : ByteArray), (⟨#[60, 62]⟩ : ByteArray), (⟨#[60]⟩ : ByteArray), (⟨#[60, 61]⟩ : ByteArray)] (by decide)
 simp only [List.map_cons, List.map_nil, yH] at hin
 have his := xw T e s2 (⟨#[58, 61]⟩ : ByteArray)
 rw [h] at his
 rw [hc] at hin
 have ht := xj T e s1
 have ho := xS 10 (tokS T e s1).at_ (tokS T e s1).s [a, b]
 have hlt := (xt h (xa (l := [58, 61]) (by simp))).2
 have ht2 := xj T e s2
 have ho2 := xS 18 (tokS T e s2).at_ nS [(eN 10 (tokS T e s1).at_ (tokS T e s1).s [a, b]), c]
 unfold ES EC at *
 clear h hc
 generalize tokS T e s1 = t at *
 generalize tokS T e s2 = u at *
 obtain ⟨a, l⟩ := a
 obtain ⟨b, r⟩ := b
 obtain ⟨c, q⟩ := c
 unfold advS at hb hi
 rw [MTok.enc_eq, xg] at ht
 rw [MTok.enc_eq, xg] at ht2
 rw [xg] at hin his
 rw [xn, xb, xb] at ha hb hi
 unfold nS at *
 simp only [xE, List.map_cons, List.map_nil, xn] at ho ho2 ⊢
 rw [xb, xb]
 refine FI PM Tryz.func206 Tryz.ntmps206 [] rfl rfl ?_
 (have hWf := w2 @xe @xd; repeat' (first | refine zS ?_ | refine zI ?_ ?_ | refine zH ha ?_ | refine zK (hin) ?_ | refine zK (his) ?_ | refine zK (ht) ?_ | refine zH hb ?_ | refine zH ho ?_ | refine zK (ht2) ?_ | refine zH hi ?_ | refine zH ho2 ?_ | exact zF0 | refine zD fun hb => ?_ | exact zC | refine zT ?_ | fail))
 all_goals rfl
theorem c_l03Set (hT : T.length <= 10000) (hRb : ∀ s, EB T s (R s)) (d : Int) (hd : 0 <= d /\ d <= 1000) (hR : CExp T e R (d + 1)) : ∀ (n : Nat) (s : PS), T.length - s.i < n -> WF T s -> ES T e d s (setF T e R n s) := fun n => by
 induction n with
 | zero => intro s h; omega
 | succ n ih =>
  intro s hn hs
  have ha := UC hT hRb d hd hR (T.length + 1) s (by omega) hs
  have m := (YB hRb (e := e) (T.length + 1) s).1
  unfold setF cmpS
  rcases hq : wl T e R (T.length + 1) s with ⟨a, s1⟩
  rw [hq] at ha m
  simp only
  have hge := m.1
  simp only at hge
  have w1 := m.wf hs
  by_cases hc : inT (tokS T e s1) [(⟨#[61]⟩ : ByteArray), (⟨#[60, 62]⟩ : ByteArray), (⟨#[60]⟩ : ByteArray), (⟨#[60, 61]⟩ : ByteArray)] = true
  ·rw [if_pos hc]
   have hl1 := (xK (uf (by simp only [List.mem_cons, List.not_mem_nil, or_false, forall_eq_or_imp, forall_eq]; exact ⟨xa (l := [61]) (by simp), xa (l := [60, 62]) (by simp), xa (l := [60]) (by simp), xa (l := [60, 61]) (by simp)⟩) hc)).2
   have wa : WF T (advS s1) := (Mo.adv hl1).wf w1
   have hb := UC hT hRb d hd hR (T.length + 1) (advS s1) (by omega) wa
   have m2 := (YB hRb (e := e) (T.length + 1) (advS s1)).1
   rcases hq2 : wl T e R (T.length + 1) (advS s1) with ⟨b, s2⟩
   rw [hq2] at hb m2
   simp only
   have hge2 := m2.1
   rw [yg] at hge2
   simp only at hge2
   by_cases h : isS T e s2 (⟨#[58, 61]⟩ : ByteArray) = true
   ·rw [if_pos h]
    have hlt := (xt h (xa (l := [58, 61]) (by simp))).2
    have hi := ih (advS s2) (by show T.length - (s2.i + 1) < n; omega) ((Mo.advS h (xa (l := [58, 61]) (by simp))).wf (m2.wf wa))
    rcases hq3 : setF T e R n (advS s2) with ⟨c, s3⟩
    rw [hq3] at hi
    exact eset_11 hT d s ha hc hl1 hb h hi
   ·rw [if_neg h]
    exact eset_10 hT d s ha hc hl1 hb (Bool.eq_false_iff.2 h)
  ·rw [if_neg hc]
   have hcf := Bool.eq_false_iff.2 hc
   simp only
   by_cases h : isS T e s1 (⟨#[58, 61]⟩ : ByteArray) = true
   ·rw [if_pos h]
    have hlt := (xt h (xa (l := [58, 61]) (by simp))).2
    have hi := ih (advS s1) (by show T.length - (s1.i + 1) < n; omega) ((Mo.advS h (xa (l := [58, 61]) (by simp))).wf w1)
    rcases hq3 : setF T e R n (advS s1) with ⟨c, s3⟩
    rw [hq3] at hi
    exact eset_01 hT d s ha hcf h hi
   ·rw [if_neg h]
    exact eset_00 hT d s ha hcf (Bool.eq_false_iff.2 h)
end
end Go.Proofs.YtgcdbmcoendcdaaGreat
namespace Go.Proofs.YtgcdbmcoendcdaaGreat
attribute [local go_sem] List.length_append List.map_append List.map_cons List.map_nil
open Go.RowKit Arb
theorem zb (l : List PT) : xJ (l.map pV) = l.map pF := by
 rw [yJ, List.map_map]
 exact List.map_congr_left fun x _ => pV_frz x
section
variable {T : List MTok} {e : Int} {R : PS -> ET × PS}
theorem arms_go {n : Nat} {qs : List MPat} {l : List ET} {s : PS} (h : s.code = 0) {p : PT} {s1 : PS} (h1 : patF T e 101 (zr s) = (p, s1)) {b : ET} {s2 : PS} (h2 : R (xf T e s1 (⟨#[45, 62]⟩ : ByteArray)) = (b, s2)) : zl T e R (n + 1) qs l s = if isS T e s2 (⟨#[124]⟩ : ByteArray) = true then zl T e R n (qs ++ [layP p]) (l ++ [b]) (advS s2) else (qs ++ [layP p], l ++ [b], s2) := by
 conv => lhs; unfold zl
 rw [if_pos h, h1]
 simp only
 rw [h2]
theorem arms_stop {n : Nat} {qs : List MPat} {l : List ET} {s : PS} (h : ¬ s.code = 0) : zl T e R n qs l s = (qs, l, s) := by
 cases n with
 | zero => rfl
 | succ n => unfold zl; rw [if_neg h]
theorem xac (hT : T.length <= 10000) (hTn : ∀ t ∈ T, -4611686018427387904 <= t.n /\ t.n <= 4611686018427387904) (hRb : ∀ s, EB T s (R s)) (d : Int) (hd : 0 <= d /\ d <= 1000) (hR : CExp T e R (d + 1)) (at_ : Int) (s : PS) (hs : WF T s) : FCon Tryz.prog 205 [.opt (rdD T e s), .s (.int .i64 d), .s (.int .i64 at_)] (fun x o => x = .ag (eV (wI T e R at_ s).1) /\ o = [.opt (rdD T e (wI T e R at_ s).2), .un, .un]) := by
 have ha := hR s hs
 have m0 := (hRb s).1
 unfold wI
 rcases hq : R s with ⟨⟨b, l⟩, s1⟩
 rw [hq] at ha m0
 simp only at ha m0 ⊢
 have ho := xS 13 at_ nS [.mk b l]
 have w0 := m0.wf hs
 have htk := xy T e s1 (by omega) (⟨#[119, 105, 116, 104]⟩ : ByteArray) (xa (l := [119, 105, 116, 104]) (by simp))
 have w1 := (Mo.take (T := T) (e := e) s1 (xa (l := [119, 105, 116, 104]) (by simp))).wf w0
 generalize xf T e s1 (⟨#[119, 105, 116, 104]⟩ : ByteArray) = s2 at *
 rcases hrr : zl T e R (T.length + 1) [] [.mk b l] s2 with ⟨qs9, l9, s9⟩
 simp only
 have hend := xy T e s9 (by omega) (⟨#[101, 110, 100]⟩ : ByteArray) (xa (l := [101, 110, 100]) (by simp))
 generalize xf T e s9 (⟨#[101, 110, 100]⟩ : ByteArray) = s8 at *
 rw [xn, xb, xb] at ha
 rw [xb, xb] at htk hend
 rw [xE, List.map_cons, List.map_nil, xn] at ho
 unfold nS at *
 rw [xn, xb, xb]
 clear hq
 refine FI PM Tryz.func205 Tryz.ntmps205 [(8, 7, [4, 6], [(4, 0), (4, 1), (4, 2), (6, 0), (6, 1), (6, 2)], (lin [4, 6] [0, 1, 2, 3, 4, 5, 6]))] rfl rfl ?_
 (have hWf := w2 @xe @xd; repeat' (first | refine zS ?_ | refine zI ?_ ?_ | refine zH ha ?_ | refine zH ho ?_ | refine zH htk ?_ | exact zF0 | refine zD fun hb => ?_ | exact zC | refine zT ?_ | fail))
 refine xk (fun n σ => ∃ (j : Nat) (qs : List MPat) (l : List ET) (s' : PS), n = T.length - s'.i /\ T.length - s'.i < j /\ WF T s' /\ qs.length <= s'.i /\ l.length <= s'.i + 1 /\ zl T e R j qs l s' = (qs9, l9, s9) /\ σ.t 0 = .bx 900000 0 /\ σ.b 900000 = some (.box [.sl 4 (T.map MTok.enc), .s (.int .i64 s'.i), .s (.int .i64 e), .s (.int .i64 s'.code), .s (.int .i64 s'.at_), .sl 1 (s'.vars.map iE), .bs 7900000 1 s'.seen.length]) /\ σ.b 7900000 = some (.arr 9 1 (s'.seen.map stE)) /\ σ.t 1 = .s (.int .i64 d) /\ σ.t 6 = .bx 6 0 /\ σ.b 6 = some (.box [.s (.int .i64 0), .s (.int .i64 0), .s (.int .i64 0), .s (.string ⟨#[]⟩), .nil, .nil, .nil]) /\ σ.t 7 = .bx 7 0 /\ σ.b 7 = some (.box [.s (.int .i64 13), .s (.int .i64 at_), .s (.int .i64 0), .s (.string ⟨#[]⟩), .nil, .bs 6016 1 qs.length, .bs 7016 7 l.length]) /\ σ.b 6016 = some (.arr 89 1 (qs.map MPat.own)) /\ σ.b 7016 = some (.arr 58 7 (l.map eV))) (T.length - s2.i) ⟨T.length + 1, [], [.mk b l], s2, rfl, by omega, w1, Nat.zero_le _, by simp, hrr, ?_⟩ ?_
 ·simp only [go_sem, simprocAttr, List.map_cons, List.map_nil, xn]
  done
 ·rintro m σ ⟨j, qs, l, s', rfl, hj, hw, hql, hll, hap, h0, b9, b7, h1, h6, b6, h7, b7', bp, bq⟩ K' hK
  have hwi := hw.1
  by_cases z0 : s'.code = 0
  ·obtain ⟨j, rfl⟩ : ∃ q, j = q + 1 := ⟨j - 1, by omega⟩
   have f0 := kT z0
   have wu : WF T (zr s') := (Mo.unseen s').wf hw
   have hcp := c_l03Pat (e := e) hT hTn 101 (Nat.le_refl _) (zr s') wu
   have pb := pat_b (T := T) (e := e) 101 (zr s')
   rcases hqp : patF T e 101 (zr s') with ⟨⟨pa, pk⟩, s3⟩
   rw [hqp] at hcp pb
   simp only at hcp pb
   have w3 := pb.1.wf wu
   have htk2 := xy T e s3 (by omega) (⟨#[45, 62]⟩ : ByteArray) (xa (l := [45, 62]) (by simp))
   have mt := Mo.take (T := T) (e := e) s3 (xa (l := [45, 62]) (by simp))
   have w4 := mt.wf w3
   have hr := hR (xf T e s3 (⟨#[45, 62]⟩ : ByteArray)) w4
   have mr := (hRb (xf T e s3 (⟨#[45, 62]⟩ : ByteArray))).1
   rcases hqr : R (xf T e s3 (⟨#[45, 62]⟩ : ByteArray)) with ⟨⟨c, r⟩, s5⟩
   rw [hqr] at hr mr
   rw [arms_go z0 hqp hqr] at hap
   simp only at hr mr
   have w5 := mr.wf w4
   have hib := xw T e s5 (⟨#[124]⟩ : ByteArray)
   have hsz : (Arb.mk pa pk : PT).size <= 1000000 := by
    have := pb.2; have := w3.1
    simp only at *
    omega
   have hpl := c_playNil (.mk pa pk) hsz
   have g1 : s'.i <= s3.i := pb.1.1
   have g2 := mt.1
   have g3 := mr.1
   generalize xf T e s3 (⟨#[45, 62]⟩ : ByteArray) = s4 at *
   generalize hpp : layP (.mk pa pk) = pp at *
   have hown := MPat.own_eq pp
   unfold zr at hcp
   rw [show (101 : Int) - ((101 : Nat) : Int) = 0 by rfl, xb, xb, wn] at hcp
   rw [List.map_nil] at hcp
   rw [xb, xb] at htk2 hr
   rw [xn] at hr
   rw [pF_mk] at hpl
   rw [xg] at hib
   clear hqp hqr hsz pb wu
   cases hbar : isS T e s5 (⟨#[124]⟩ : ByteArray) with
   | true =>
    have hlb := (xt hbar (xa (l := [124]) (by simp))).2
    rw [hbar, if_pos rfl] at hap
    rw [hbar] at hib
    iterate 4 (refine xA ?_; simp only [go_sem, simprocAttr, h0, b9, b7, h1, h6, b6, h7, b7', bp, bq, xe, xd, zb, f0]; (have hWf := w14 @h0 @b9 @b7 @h1 @h6 @b6 @h7 @b7' @bp @bq @xe @xd @zb @f0; repeat' (first | refine zY ?_ | refine zI ?_ ?_ | exact zF1 | refine zD fun hb => ?_ | exact zC | refine zT ?_ | fail)))
    refine zc 900000 6 779 (row := [.sl 4 (T.map MTok.enc), .s (.int .i64 s'.i), .s (.int .i64 e), .s (.int .i64 s'.code), .s (.int .i64 s'.at_), .sl 1 (s'.vars.map iE), .nil]) 9 1 (by simp only [go_sem, simprocAttr]) rfl (by decide) rfl ?_
    iterate 3 (refine xA ?_; simp only [go_sem, simprocAttr, h0, b9, b7, h1, h6, b6, h7, b7', bp, bq, xe, xd, zb, f0]; (have hWf := w14 @h0 @b9 @b7 @h1 @h6 @b6 @h7 @b7' @bp @bq @xe @xd @zb @f0; repeat' (first | refine zY ?_ | refine zI ?_ ?_ | refine zH hcp ?_ | refine zH htk2 ?_ | refine zH hr ?_ | exact zF1 | refine zD fun hb => ?_ | exact zC | refine zT ?_ | fail)))
    refine ze 5028 (.arr 275 5 (pk.map pV)) (by simp only [go_sem, simprocAttr]) rfl ?_
    (have hWf := w14 @h0 @b9 @b7 @h1 @h6 @b6 @h7 @b7' @bp @bq @xe @xd @zb @f0; repeat' (first | refine zS ?_ | refine zI ?_ ?_ | refine zX (hpl) ?_ | ((with_reducible apply xc); refine xm (hpl) ?_; rintro _ _ ⟨rfl, rfl⟩) | refine zK (hib) ?_ | exact zF0 | refine zD fun hb => ?_ | exact zC | refine zT ?_ | fail))
    refine hK (T.length - (s5.i + 1)) _ (by omega) ⟨j, qs ++ [pp], l ++ [.mk c r], advS s5, rfl, by show T.length - (s5.i + 1) < j; omega, (Mo.adv hlb).wf w5, by rw [List.length_append]; show qs.length + 1 <= s5.i + 1; omega, by rw [List.length_append]; show l.length + 1 <= s5.i + 1 + 1; omega, hap, ?_⟩
    simp only [go_sem, simprocAttr, h0, b9, b7, h1, h6, b6, h7, b7', bp, bq, xe, xd, zb, List.map_append, List.map_cons, List.map_nil, List.length_append, xn, hown]
    exact ⟨rfl, rfl⟩
   | false =>
    rw [hbar, if_neg (by decide)] at hap
    rw [hbar] at hib
    injection hap with e1 e2
    injection e2 with e2 e3
    subst e1 e2 e3
    iterate 4 (refine xA ?_; simp only [go_sem, simprocAttr, h0, b9, b7, h1, h6, b6, h7, b7', bp, bq, xe, xd, zb, f0]; (have hWf := w14 @h0 @b9 @b7 @h1 @h6 @b6 @h7 @b7' @bp @bq @xe @xd @zb @f0; repeat' (first | refine zY ?_ | refine zI ?_ ?_ | exact zF1 | refine zD fun hb => ?_ | exact zC | refine zT ?_ | fail)))
    refine zc 900000 6 779 (row := [.sl 4 (T.map MTok.enc), .s (.int .i64 s'.i), .s (.int .i64 e), .s (.int .i64 s'.code), .s (.int .i64 s'.at_), .sl 1 (s'.vars.map iE), .nil]) 9 1 (by simp only [go_sem, simprocAttr]) rfl (by decide) rfl ?_
    iterate 3 (refine xA ?_; simp only [go_sem, simprocAttr, h0, b9, b7, h1, h6, b6, h7, b7', bp, bq, xe, xd, zb, f0]; (have hWf := w14 @h0 @b9 @b7 @h1 @h6 @b6 @h7 @b7' @bp @bq @xe @xd @zb @f0; repeat' (first | refine zY ?_ | refine zI ?_ ?_ | refine zH hcp ?_ | refine zH htk2 ?_ | refine zH hr ?_ | exact zF1 | refine zD fun hb => ?_ | exact zC | refine zT ?_ | fail)))
    refine ze 5028 (.arr 275 5 (pk.map pV)) (by simp only [go_sem, simprocAttr]) rfl ?_
    (have hWf := w16 @h0 @b9 @b7 @h1 @h6 @b6 @h7 @b7' @bp @bq @xe @xd @zb @f0 @xn @hown; repeat' (first | refine zS ?_ | refine zI ?_ ?_ | refine zX (hpl) ?_ | ((with_reducible apply xc); refine xm (hpl) ?_; rintro _ _ ⟨rfl, rfl⟩) | refine zK (hib) ?_ | refine zH hend ?_ | exact zF0 | refine zD fun hb => ?_ | exact zC | refine zT ?_ | fail))
    all_goals rfl
  ·have f0 := kF z0
   rw [arms_stop z0] at hap
   injection hap with e1 e2
   injection e2 with e2 e3
   subst e1 e2 e3
   (have hWf := w14 @h0 @b9 @b7 @h1 @h6 @b6 @h7 @b7' @bp @bq @xe @xd @zb @f0; repeat' (first | refine zS ?_ | refine zI ?_ ?_ | refine zH hend ?_ | exact zF0 | refine zD fun hb => ?_ | exact zC | refine zT ?_ | fail))
   all_goals rfl
end
end Go.Proofs.YtgcdbmcoendcdaaGreat
namespace Go.Proofs.YtgcdbmcoendcdaaGreat
open Go.RowKit Arb
section
variable {T : List MTok} {e : Int} {R : PS -> ET × PS}
def EX (T : List MTok) (e : Int) (d : Int) (s : PS) (r : ET × PS) : Prop := FCon Tryz.prog 130 [.opt (rdD T e s), .s (.int .i64 d)] (fun x o => x = .ag (eV r.1) /\ o = [.opt (rdD T e r.2), .un])
theorem ex_fun (hT : T.length <= 10000) (d : Int) (hd : 0 <= d /\ d <= 100) (s : PS) (z0 : s.code = 0) (h : isS T e s (⟨#[102, 117, 110]⟩ : ByteArray) = true) {x : ByteArray} {s1 : PS} (hw0' : xp T e (advS s) 3 = (x, s1)) {s2 : PS} (hk1' : xf T e s1 (⟨#[45, 62]⟩ : ByteArray) = s2) {b : ET} {s3 : PS} (hr2 : EX T e (d + 1) s2 (b, s3)) : EX T e d s (eN 5 (tokS T e s).at_ x [b], s3) := by
 have ht := xj T e s
 have hg := xz (tokS T e s)
 have hlt := (xt h (xa (l := [102, 117, 110]) (by simp))).2
 have hdd : decide ((100 : Int) < d) = false := decide_eq_false (by omega)
 have f0 := knT z0
 have hw0 := yq T e (advS s) (by omega) 3 (by decide)
 rw [hw0'] at hw0
 have hk1 := xy T e s1 (by omega) (⟨#[45, 62]⟩ : ByteArray) (xa (l := [45, 62]) (by simp))
 rw [hk1'] at hk1
 have ho0 := xS 5 (tokS T e s).at_ x [b]
 clear z0 hw0' hk1'
 unfold EX at *
 simp only [x5] at h
 generalize tokS T e s = t at *
 obtain ⟨b, b'⟩ := b
 try unfold advS at *
 rw [MTok.enc_eq, xg] at ht
 rw [MTok.enc_eq] at hg
 rw [xb, xb] at hw0 hk1
 rw [xn, xb, xb] at hr2
 try unfold nS at *
 simp only [xE, List.map_cons, List.map_nil, xn] at ho0 ⊢
 rw [xb, xb]
 refine FI PM Tryz.func130 Tryz.ntmps130 [(25, 10, [6, 7, 9], [(6, 0), (6, 1), (6, 2), (6, 3), (6, 4), (6, 8), (7, 0), (7, 1), (7, 2), (7, 8), (9, 0), (9, 1), (9, 2)], (lin [6, 7, 9] [0, 1, 2, 3, 4, 5, 8, 6, 7, 9]))] rfl rfl ?_
 (have hWf := w5 @xe @xd @f0 @hdd @h; repeat' (first | refine zS ?_ | refine zI ?_ ?_ | refine zK (ht) ?_ | refine zK (hg) ?_ | refine zH hw0 ?_ | refine zH hk1 ?_ | refine zH hr2 ?_ | refine zX (ho0) ?_ | ((with_reducible apply xc); refine xm (ho0) ?_; rintro _ _ ⟨rfl, rfl⟩) | exact zF0 | refine zD fun hb => ?_ | exact zC | refine zT ?_ | fail))
 all_goals rfl
theorem ex_rec (hT : T.length <= 10000) (d : Int) (hd : 0 <= d /\ d <= 100) (s : PS) (z0 : s.code = 0) (n0 : isS T e s (⟨#[102, 117, 110]⟩ : ByteArray) = false) (h : isS T e s (⟨#[108, 101, 116]⟩ : ByteArray) = true) (hi0' : isS T e (advS s) (⟨#[114, 101, 99]⟩ : ByteArray) = true) {f : ByteArray} {s2 : PS} (hw1' : xp T e (advS (advS s)) 3 = (f, s2)) {x : ByteArray} {s4 : PS} (hw3' : xp T e s2 3 = (x, s4)) {s5 : PS} (hk4' : xf T e s4 (⟨#[61]⟩ : ByteArray) = s5) {a : ET} {s6 : PS} (hr5 : EX T e (d + 1) s5 (a, s6)) {s7 : PS} (hk6' : xf T e s6 (⟨#[105, 110]⟩ : ByteArray) = s7) {b : ET} {s8 : PS} (hr7 : EX T e (d + 1) s7 (b, s8)) : EX T e d s (eN 8 (tokS T e s).at_ f [eN 5 (tokS T e s2).at_ x [a], b], s8) := by
 have ht := xj T e s
 have hg := xz (tokS T e s)
 have hlt := (xt h (xa (l := [108, 101, 116]) (by simp))).2
 have hdd : decide ((100 : Int) < d) = false := decide_eq_false (by omega)
 have f0 := knT z0
 have hi0 := xw T e (advS s) (⟨#[114, 101, 99]⟩ : ByteArray)
 rw [hi0'] at hi0
 have hlhi0 := (xt hi0' (xa (l := [114, 101, 99]) (by simp))).2
 have hw1 := yq T e (advS (advS s)) (by omega) 3 (by decide)
 rw [hw1'] at hw1
 have ht2 := xj T e s2
 have hw3 := yq T e s2 (by omega) 3 (by decide)
 rw [hw3'] at hw3
 have hk4 := xy T e s4 (by omega) (⟨#[61]⟩ : ByteArray) (xa (l := [61]) (by simp))
 rw [hk4'] at hk4
 have hk6 := xy T e s6 (by omega) (⟨#[105, 110]⟩ : ByteArray) (xa (l := [105, 110]) (by simp))
 rw [hk6'] at hk6
 have ho0 := xS 5 (tokS T e s2).at_ x [a]
 have ho1 := xS 8 (tokS T e s).at_ f [eN 5 (tokS T e s2).at_ x [a], b]
 clear z0 hi0' hw1' hw3' hk4' hk6'
 unfold EX at *
 simp only [x5] at n0 h
 generalize tokS T e s = t at *
 generalize tokS T e s2 = u at *
 obtain ⟨a, a'⟩ := a
 obtain ⟨b, b'⟩ := b
 try unfold advS at *
 rw [MTok.enc_eq, xg] at ht ht2
 rw [MTok.enc_eq] at hg
 rw [xg] at hi0
 rw [xb, xb] at hw1 hw3 hk4 hk6
 rw [xn, xb, xb] at hr5 hr7
 try unfold nS at *
 simp only [xE, List.map_cons, List.map_nil, xn] at ho0 ho1 ⊢
 rw [xb, xb]
 refine FI PM Tryz.func130 Tryz.ntmps130 [(25, 10, [6, 7, 9], [(6, 0), (6, 1), (6, 2), (6, 3), (6, 4), (6, 8), (7, 0), (7, 1), (7, 2), (7, 8), (9, 0), (9, 1), (9, 2)], (lin [6, 7, 9] [0, 1, 2, 3, 4, 5, 8, 6, 7, 9]))] rfl rfl ?_
 (have hWf := w6 @xe @xd @f0 @hdd @n0 @h; repeat' (first | refine zS ?_ | refine zI ?_ ?_ | refine zK (ht) ?_ | refine zK (hg) ?_ | refine zK (hi0) ?_ | refine zH hw1 ?_ | refine zK (ht2) ?_ | refine zH hw3 ?_ | refine zH hk4 ?_ | refine zH hr5 ?_ | refine zH hk6 ?_ | refine zH hr7 ?_ | refine zX (ho0) ?_ | ((with_reducible apply xc); refine xm (ho0) ?_; rintro _ _ ⟨rfl, rfl⟩) | refine zX (ho1) ?_ | ((with_reducible apply xc); refine xm (ho1) ?_; rintro _ _ ⟨rfl, rfl⟩) | exact zF0 | refine zD fun hb => ?_ | exact zC | refine zT ?_ | fail))
 all_goals rfl
theorem ex_let (hT : T.length <= 10000) (d : Int) (hd : 0 <= d /\ d <= 100) (s : PS) (z0 : s.code = 0) (n0 : isS T e s (⟨#[102, 117, 110]⟩ : ByteArray) = false) (h : isS T e s (⟨#[108, 101, 116]⟩ : ByteArray) = true) (hi0' : isS T e (advS s) (⟨#[114, 101, 99]⟩ : ByteArray) = false) {x : ByteArray} {s2 : PS} (hw1' : xp T e (advS s) 3 = (x, s2)) {s3 : PS} (hk2' : xf T e s2 (⟨#[61]⟩ : ByteArray) = s3) {a : ET} {s4 : PS} (hr3 : EX T e (d + 1) s3 (a, s4)) {s5 : PS} (hk4' : xf T e s4 (⟨#[105, 110]⟩ : ByteArray) = s5) {b : ET} {s6 : PS} (hr5 : EX T e (d + 1) s5 (b, s6)) : EX T e d s (eN 7 (tokS T e s).at_ x [a, b], s6) := by
 have ht := xj T e s
 have hg := xz (tokS T e s)
 have hlt := (xt h (xa (l := [108, 101, 116]) (by simp))).2
 have hdd : decide ((100 : Int) < d) = false := decide_eq_false (by omega)
 have f0 := knT z0
 have hi0 := xw T e (advS s) (⟨#[114, 101, 99]⟩ : ByteArray)
 rw [hi0'] at hi0
 have hw1 := yq T e (advS s) (by omega) 3 (by decide)
 rw [hw1'] at hw1
 have hk2 := xy T e s2 (by omega) (⟨#[61]⟩ : ByteArray) (xa (l := [61]) (by simp))
 rw [hk2'] at hk2
 have hk4 := xy T e s4 (by omega) (⟨#[105, 110]⟩ : ByteArray) (xa (l := [105, 110]) (by simp))
 rw [hk4'] at hk4
 have ho0 := xS 7 (tokS T e s).at_ x [a, b]
 clear z0 hi0' hw1' hk2' hk4'
 unfold EX at *
 simp only [x5] at n0 h
 generalize tokS T e s = t at *
 obtain ⟨a, a'⟩ := a
 obtain ⟨b, b'⟩ := b
 try unfold advS at *
 rw [MTok.enc_eq, xg] at ht
 rw [MTok.enc_eq] at hg
 rw [xg] at hi0
 rw [xb, xb] at hw1 hk2 hk4
 rw [xn, xb, xb] at hr3 hr5
 try unfold nS at *
 simp only [xE, List.map_cons, List.map_nil, xn] at ho0 ⊢
 rw [xb, xb]
 refine FI PM Tryz.func130 Tryz.ntmps130 [(25, 10, [6, 7, 9], [(6, 0), (6, 1), (6, 2), (6, 3), (6, 4), (6, 8), (7, 0), (7, 1), (7, 2), (7, 8), (9, 0), (9, 1), (9, 2)], (lin [6, 7, 9] [0, 1, 2, 3, 4, 5, 8, 6, 7, 9]))] rfl rfl ?_
 (have hWf := w6 @xe @xd @f0 @hdd @n0 @h; repeat' (first | refine zS ?_ | refine zI ?_ ?_ | refine zK (ht) ?_ | refine zK (hg) ?_ | refine zK (hi0) ?_ | refine zH hw1 ?_ | refine zH hk2 ?_ | refine zH hr3 ?_ | refine zH hk4 ?_ | refine zH hr5 ?_ | refine zX (ho0) ?_ | ((with_reducible apply xc); refine xm (ho0) ?_; rintro _ _ ⟨rfl, rfl⟩) | exact zF0 | refine zD fun hb => ?_ | exact zC | refine zT ?_ | fail))
 all_goals rfl
theorem ex_if (hT : T.length <= 10000) (d : Int) (hd : 0 <= d /\ d <= 100) (s : PS) (z0 : s.code = 0) (n0 : isS T e s (⟨#[102, 117, 110]⟩ : ByteArray) = false) (n1 : isS T e s (⟨#[108, 101, 116]⟩ : ByteArray) = false) (h : isS T e s (⟨#[105, 102]⟩ : ByteArray) = true) {a : ET} {s1 : PS} (hr0 : EX T e (d + 1) (advS s) (a, s1)) {s2 : PS} (hk1' : xf T e s1 (⟨#[116, 104, 101, 110]⟩ : ByteArray) = s2) {b : ET} {s3 : PS} (hr2 : EX T e (d + 1) s2 (b, s3)) {s4 : PS} (hk3' : xf T e s3 (⟨#[101, 108, 115, 101]⟩ : ByteArray) = s4) {c : ET} {s5 : PS} (hr4 : EX T e (d + 1) s4 (c, s5)) : EX T e d s (eN 9 (tokS T e s).at_ nS [a, b, c], s5) := by
 have ht := xj T e s
 have hg := xz (tokS T e s)
 have hlt := (xt h (xa (l := [105, 102]) (by simp))).2
 have hdd : decide ((100 : Int) < d) = false := decide_eq_false (by omega)
 have f0 := knT z0
 have hk1 := xy T e s1 (by omega) (⟨#[116, 104, 101, 110]⟩ : ByteArray) (xa (l := [116, 104, 101, 110]) (by simp))
 rw [hk1'] at hk1
 have hk3 := xy T e s3 (by omega) (⟨#[101, 108, 115, 101]⟩ : ByteArray) (xa (l := [101, 108, 115, 101]) (by simp))
 rw [hk3'] at hk3
 have ho0 := xS 9 (tokS T e s).at_ nS [a, b, c]
 clear z0 hk1' hk3'
 unfold EX at *
 simp only [x5] at n0 n1 h
 generalize tokS T e s = t at *
 obtain ⟨a, a'⟩ := a
 obtain ⟨b, b'⟩ := b
 obtain ⟨c, c'⟩ := c
 try unfold advS at *
 rw [MTok.enc_eq, xg] at ht
 rw [MTok.enc_eq] at hg
 rw [xb, xb] at hk1 hk3
 rw [xn, xb, xb] at hr0 hr2 hr4
 try unfold nS at *
 simp only [xE, List.map_cons, List.map_nil, xn] at ho0 ⊢
 rw [xb, xb]
 refine FI PM Tryz.func130 Tryz.ntmps130 [(25, 10, [6, 7, 9], [(6, 0), (6, 1), (6, 2), (6, 3), (6, 4), (6, 8), (7, 0), (7, 1), (7, 2), (7, 8), (9, 0), (9, 1), (9, 2)], (lin [6, 7, 9] [0, 1, 2, 3, 4, 5, 8, 6, 7, 9]))] rfl rfl ?_
 (have hWf := w7 @xe @xd @f0 @hdd @n0 @n1 @h; repeat' (first | refine zS ?_ | refine zI ?_ ?_ | refine zK (ht) ?_ | refine zK (hg) ?_ | refine zH hr0 ?_ | refine zH hk1 ?_ | refine zH hr2 ?_ | refine zH hk3 ?_ | refine zH hr4 ?_ | refine zX (ho0) ?_ | ((with_reducible apply xc); refine xm (ho0) ?_; rintro _ _ ⟨rfl, rfl⟩) | exact zF0 | refine zD fun hb => ?_ | exact zC | refine zT ?_ | fail))
 all_goals rfl
theorem ex_match (hT : T.length <= 10000) (d : Int) (hd : 0 <= d /\ d <= 100) (s : PS) (z0 : s.code = 0) (n0 : isS T e s (⟨#[102, 117, 110]⟩ : ByteArray) = false) (n1 : isS T e s (⟨#[108, 101, 116]⟩ : ByteArray) = false) (n2 : isS T e s (⟨#[105, 102]⟩ : ByteArray) = false) (h : isS T e s (⟨#[109, 97, 116, 99, 104]⟩ : ByteArray) = true) {a : ET} {s1 : PS} (hc0 : FCon Tryz.prog 205 [.opt (rdD T e (advS s)), .s (.int .i64 d), .s (.int .i64 (tokS T e s).at_)] (fun x o => x = .ag (eV (a, s1).1) /\ o = [.opt (rdD T e (a, s1).2), .un, .un])) : EX T e d s (a, s1) := by
 have ht := xj T e s
 have hg := xz (tokS T e s)
 have hlt := (xt h (xa (l := [109, 97, 116, 99, 104]) (by simp))).2
 have hdd : decide ((100 : Int) < d) = false := decide_eq_false (by omega)
 have f0 := knT z0
 clear z0
 unfold EX at *
 simp only [x5] at n0 n1 n2 h
 generalize tokS T e s = t at *
 obtain ⟨a, a'⟩ := a
 try unfold advS at *
 rw [MTok.enc_eq, xg] at ht
 rw [MTok.enc_eq] at hg
 rw [xn, xb, xb] at hc0
 try unfold nS at *
 simp only [xE, List.map_cons, List.map_nil, xn] at ⊢
 rw [xb, xb]
 refine FI PM Tryz.func130 Tryz.ntmps130 [(25, 10, [6, 7, 9], [(6, 0), (6, 1), (6, 2), (6, 3), (6, 4), (6, 8), (7, 0), (7, 1), (7, 2), (7, 8), (9, 0), (9, 1), (9, 2)], (lin [6, 7, 9] [0, 1, 2, 3, 4, 5, 8, 6, 7, 9]))] rfl rfl ?_
 (have hWf := w8 @xe @xd @f0 @hdd @n0 @n1 @n2 @h; repeat' (first | refine zS ?_ | refine zI ?_ ?_ | refine zK (ht) ?_ | refine zK (hg) ?_ | refine zH hc0 ?_ | exact zF0 | refine zD fun hb => ?_ | exact zC | refine zT ?_ | fail))
 all_goals rfl
theorem ex_try (hT : T.length <= 10000) (d : Int) (hd : 0 <= d /\ d <= 100) (s : PS) (z0 : s.code = 0) (n0 : isS T e s (⟨#[102, 117, 110]⟩ : ByteArray) = false) (n1 : isS T e s (⟨#[108, 101, 116]⟩ : ByteArray) = false) (n2 : isS T e s (⟨#[105, 102]⟩ : ByteArray) = false) (n3 : isS T e s (⟨#[109, 97, 116, 99, 104]⟩ : ByteArray) = false) (h : isS T e s (⟨#[116, 114, 121]⟩ : ByteArray) = true) {a : ET} {s1 : PS} (hr0 : EX T e (d + 1) (advS s) (a, s1)) {s2 : PS} (hk1' : xf T e s1 (⟨#[119, 105, 116, 104]⟩ : ByteArray) = s2) {x : ByteArray} {s3 : PS} (hw2' : xp T e s2 3 = (x, s3)) {s4 : PS} (hk3' : xf T e s3 (⟨#[45, 62]⟩ : ByteArray) = s4) {b : ET} {s5 : PS} (hr4 : EX T e (d + 1) s4 (b, s5)) {s6 : PS} (hk5' : xf T e s5 (⟨#[101, 110, 100]⟩ : ByteArray) = s6) : EX T e d s (eN 15 (tokS T e s).at_ x [a, b], s6) := by
 have ht := xj T e s
 have hg := xz (tokS T e s)
 have hlt := (xt h (xa (l := [116, 114, 121]) (by simp))).2
 have hdd : decide ((100 : Int) < d) = false := decide_eq_false (by omega)
 have f0 := knT z0
 have hk1 := xy T e s1 (by omega) (⟨#[119, 105, 116, 104]⟩ : ByteArray) (xa (l := [119, 105, 116, 104]) (by simp))
 rw [hk1'] at hk1
 have hw2 := yq T e s2 (by omega) 3 (by decide)
 rw [hw2'] at hw2
 have hk3 := xy T e s3 (by omega) (⟨#[45, 62]⟩ : ByteArray) (xa (l := [45, 62]) (by simp))
 rw [hk3'] at hk3
 have hk5 := xy T e s5 (by omega) (⟨#[101, 110, 100]⟩ : ByteArray) (xa (l := [101, 110, 100]) (by simp))
 rw [hk5'] at hk5
 have ho0 := xS 15 (tokS T e s).at_ x [a, b]
 clear z0 hk1' hw2' hk3' hk5'
 unfold EX at *
 simp only [x5] at n0 n1 n2 n3 h
 generalize tokS T e s = t at *
 obtain ⟨a, a'⟩ := a
 obtain ⟨b, b'⟩ := b
 try unfold advS at *
 rw [MTok.enc_eq, xg] at ht
 rw [MTok.enc_eq] at hg
 rw [xb, xb] at hk1 hw2 hk3 hk5
 rw [xn, xb, xb] at hr0 hr4
 try unfold nS at *
 simp only [xE, List.map_cons, List.map_nil, xn] at ho0 ⊢
 rw [xb, xb]
 refine FI PM Tryz.func130 Tryz.ntmps130 [(25, 10, [6, 7, 9], [(6, 0), (6, 1), (6, 2), (6, 3), (6, 4), (6, 8), (7, 0), (7, 1), (7, 2), (7, 8), (9, 0), (9, 1), (9, 2)], (lin [6, 7, 9] [0, 1, 2, 3, 4, 5, 8, 6, 7, 9]))] rfl rfl ?_
 (have hWf := w9 @xe @xd @f0 @hdd @n0 @n1 @n2 @n3 @h; repeat' (first | refine zS ?_ | refine zI ?_ ?_ | refine zK (ht) ?_ | refine zK (hg) ?_ | refine zH hr0 ?_ | refine zH hk1 ?_ | refine zH hw2 ?_ | refine zH hk3 ?_ | refine zH hr4 ?_ | refine zH hk5 ?_ | refine zX (ho0) ?_ | ((with_reducible apply xc); refine xm (ho0) ?_; rintro _ _ ⟨rfl, rfl⟩) | exact zF0 | refine zD fun hb => ?_ | exact zC | refine zT ?_ | fail))
 all_goals rfl
theorem ex_set (hT : T.length <= 10000) (d : Int) (hd : 0 <= d /\ d <= 100) (s : PS) (z0 : s.code = 0) (n0 : isS T e s (⟨#[102, 117, 110]⟩ : ByteArray) = false) (n1 : isS T e s (⟨#[108, 101, 116]⟩ : ByteArray) = false) (n2 : isS T e s (⟨#[105, 102]⟩ : ByteArray) = false) (n3 : isS T e s (⟨#[109, 97, 116, 99, 104]⟩ : ByteArray) = false) (n4 : isS T e s (⟨#[116, 114, 121]⟩ : ByteArray) = false) {a : ET} {s1 : PS} (hc0 : ES T e d s (a, s1)) (hi1' : isS T e s1 (⟨#[59]⟩ : ByteArray) = false) : EX T e d s (a, s1) := by
 have ht := xj T e s
 have hg := xz (tokS T e s)
 have hdd : decide ((100 : Int) < d) = false := decide_eq_false (by omega)
 have f0 := knT z0
 have hi1 := xw T e s1 (⟨#[59]⟩ : ByteArray)
 rw [hi1'] at hi1
 clear z0 hi1'
 unfold EX at *
 unfold ES at hc0
 simp only [x5] at n0 n1 n2 n3 n4
 generalize tokS T e s = t at *
 obtain ⟨a, a'⟩ := a
 try unfold advS at *
 rw [MTok.enc_eq, xg] at ht
 rw [MTok.enc_eq] at hg
 rw [xg] at hi1
 rw [xn, xb, xb] at hc0
 try unfold nS at *
 simp only [xE, List.map_cons, List.map_nil, xn] at ⊢
 rw [xb, xb]
 refine FI PM Tryz.func130 Tryz.ntmps130 [(25, 10, [6, 7, 9], [(6, 0), (6, 1), (6, 2), (6, 3), (6, 4), (6, 8), (7, 0), (7, 1), (7, 2), (7, 8), (9, 0), (9, 1), (9, 2)], (lin [6, 7, 9] [0, 1, 2, 3, 4, 5, 8, 6, 7, 9]))] rfl rfl ?_
 (have hWf := w9 @xe @xd @f0 @hdd @n0 @n1 @n2 @n3 @n4; repeat' (first | refine zS ?_ | refine zI ?_ ?_ | refine zK (ht) ?_ | refine zK (hg) ?_ | refine zH hc0 ?_ | refine zK (hi1) ?_ | exact zF0 | refine zD fun hb => ?_ | exact zC | refine zT ?_ | fail))
 all_goals rfl
theorem ex_seq (hT : T.length <= 10000) (d : Int) (hd : 0 <= d /\ d <= 100) (s : PS) (z0 : s.code = 0) (n0 : isS T e s (⟨#[102, 117, 110]⟩ : ByteArray) = false) (n1 : isS T e s (⟨#[108, 101, 116]⟩ : ByteArray) = false) (n2 : isS T e s (⟨#[105, 102]⟩ : ByteArray) = false) (n3 : isS T e s (⟨#[109, 97, 116, 99, 104]⟩ : ByteArray) = false) (n4 : isS T e s (⟨#[116, 114, 121]⟩ : ByteArray) = false) {a : ET} {s1 : PS} (hc0 : ES T e d s (a, s1)) (hi1' : isS T e s1 (⟨#[59]⟩ : ByteArray) = true) {b : ET} {s4 : PS} (hr3 : EX T e (d + 1) (advS s1) (b, s4)) : EX T e d s (eN 19 (tokS T e s1).at_ nS [a, b], s4) := by
 have ht := xj T e s
 have hg := xz (tokS T e s)
 have hdd : decide ((100 : Int) < d) = false := decide_eq_false (by omega)
 have f0 := knT z0
 have hi1 := xw T e s1 (⟨#[59]⟩ : ByteArray)
 rw [hi1'] at hi1
 have hlhi1 := (xt hi1' (xa (l := [59]) (by simp))).2
 have ht2 := xj T e s1
 have ho0 := xS 19 (tokS T e s1).at_ nS [a, b]
 clear z0 hi1'
 unfold EX at *
 unfold ES at hc0
 simp only [x5] at n0 n1 n2 n3 n4
 generalize tokS T e s = t at *
 generalize tokS T e s1 = u at *
 obtain ⟨a, a'⟩ := a
 obtain ⟨b, b'⟩ := b
 try unfold advS at *
 rw [MTok.enc_eq, xg] at ht ht2
 rw [MTok.enc_eq] at hg
 rw [xg] at hi1
 rw [xn, xb, xb] at hc0 hr3
 try unfold nS at *
 simp only [xE, List.map_cons, List.map_nil, xn] at ho0 ⊢
 rw [xb, xb]
 refine FI PM Tryz.func130 Tryz.ntmps130 [(25, 10, [6, 7, 9], [(6, 0), (6, 1), (6, 2), (6, 3), (6, 4), (6, 8), (7, 0), (7, 1), (7, 2), (7, 8), (9, 0), (9, 1), (9, 2)], (lin [6, 7, 9] [0, 1, 2, 3, 4, 5, 8, 6, 7, 9]))] rfl rfl ?_
 (have hWf := w9 @xe @xd @f0 @hdd @n0 @n1 @n2 @n3 @n4; repeat' (first | refine zS ?_ | refine zI ?_ ?_ | refine zK (ht) ?_ | refine zK (hg) ?_ | refine zH hc0 ?_ | refine zK (hi1) ?_ | refine zK (ht2) ?_ | refine zH hr3 ?_ | refine zX (ho0) ?_ | ((with_reducible apply xc); refine xm (ho0) ?_; rintro _ _ ⟨rfl, rfl⟩) | exact zF0 | refine zD fun hb => ?_ | exact zC | refine zT ?_ | fail))
 all_goals rfl
theorem ex_stop (d : Int) (s : PS) (z0 : ¬ s.code = 0) : EX T e d s (E0, s) := by
 have f0 : (s.code != 0) = true := by simpa using z0
 unfold EX
 refine FCon.eLeaf ?_
 rw [xb]
 refine FI PM Tryz.func130 Tryz.ntmps130 [(25, 10, [6, 7, 9], [(6, 0), (6, 1), (6, 2), (6, 3), (6, 4), (6, 8), (7, 0), (7, 1), (7, 2), (7, 8), (9, 0), (9, 1), (9, 2)], (lin [6, 7, 9] [0, 1, 2, 3, 4, 5, 8, 6, 7, 9]))] rfl rfl ?_
 (have hWf := w3 @xe @xd @f0; repeat' (first | refine zS ?_ | refine zI ?_ ?_ | exact zF0 | refine zD fun hb => ?_ | exact zC | refine zT ?_ | fail))
 all_goals rfl
theorem ex_end (s : PS) (z0 : s.code = 0) : EX T e 101 s (E0, zm T e s (Zc (tokS T e s))) := by
 have f0 : (s.code != 0) = false := by rw [z0]; rfl
 have hb := VC T e s
 have hdp := Yz T e s (Zc (tokS T e s))
 unfold EX
 generalize Zc (tokS T e s) = q at *
 refine FCon.eLeaf ?_
 rw [xg] at hb
 rw [xb, xb] at hdp
 rw [xb, xb]
 clear z0
 refine FI PM Tryz.func130 Tryz.ntmps130 [(25, 10, [6, 7, 9], [(6, 0), (6, 1), (6, 2), (6, 3), (6, 4), (6, 8), (7, 0), (7, 1), (7, 2), (7, 8), (9, 0), (9, 1), (9, 2)], (lin [6, 7, 9] [0, 1, 2, 3, 4, 5, 8, 6, 7, 9]))] rfl rfl ?_
 (have hWf := w3 @xe @xd @f0; repeat' (first | refine zS ?_ | refine zI ?_ ?_ | refine zK (hb) ?_ | refine zH hdp ?_ | exact zF0 | refine zD fun hb => ?_ | exact zC | refine zT ?_ | fail))
 all_goals rfl
theorem wP {s : PS} {x : ByteArray} (hx : x.toList ≠ []) (hs : WF T s) : WF T (xf T e s x) := (Mo.take s hx).wf hs
theorem XO {s s1 : PS} {k : Int} {x : ByteArray} (hk : k ≠ 0) (h : xp T e s k = (x, s1)) (hs : WF T s) : WF T s1 := (XN hk h).wf hs
theorem Q7 (hT : T.length <= 10000) (hTn : ∀ t ∈ T, -4611686018427387904 <= t.n /\ t.n <= 4611686018427387904) (hRb : ∀ s, EB T s (R s)) (d : Int) (hd : 0 <= d /\ d <= 100) (hR : CExp T e R (d + 1)) (s : PS) (hs : WF T s) : EX T e d s (ue T e R s) := by
 have hd' : 0 <= d /\ d <= 1000 := ⟨hd.1, by omega⟩
 have hr : ∀ {s' : PS} {r : ET × PS}, R s' = r -> WF T s' -> EX T e (d + 1) s' r := fun h w => by subst h; exact hR _ w
 have wr : ∀ {s' s1 : PS} {b : ET}, R s' = (b, s1) -> WF T s' -> WF T s1 := fun {s' s1 b} h w => by
  have := (hRb s').1.wf w
  rw [h] at this; exact this
 unfold ue
 by_cases z0 : s.code = 0
 ·rw [if_pos z0]
  by_cases h0 : isS T e s (⟨#[102, 117, 110]⟩ : ByteArray) = true
  ·rw [if_pos h0]
   have w0 := (Mo.advS h0 (xa (l := [102, 117, 110]) (by simp))).wf hs
   rcases h1 : xp T e (advS s) 3 with ⟨x, s1⟩
   have w1 := XO (by decide) h1 w0
   have w2 := wP (e := e) (x := (⟨#[45, 62]⟩ : ByteArray)) (xa (l := [45, 62]) (by simp)) w1
   simp only
   rcases h2 : R (xf T e s1 (⟨#[45, 62]⟩ : ByteArray)) with ⟨b, s2⟩
   exact ex_fun hT d hd s z0 h0 h1 rfl (hr h2 w2)
  rw [if_neg h0]
  have n0 := Bool.eq_false_iff.2 h0
  by_cases h1 : isS T e s (⟨#[108, 101, 116]⟩ : ByteArray) = true
  ·rw [if_pos h1]
   have w0 := (Mo.advS h1 (xa (l := [108, 101, 116]) (by simp))).wf hs
   by_cases h2 : isS T e (advS s) (⟨#[114, 101, 99]⟩ : ByteArray) = true
   ·rw [if_pos h2]
    have w1 := (Mo.advS h2 (xa (l := [114, 101, 99]) (by simp))).wf w0
    rcases h3 : xp T e (advS (advS s)) 3 with ⟨f, s1⟩
    have w2 := XO (by decide) h3 w1
    simp only
    rcases h4 : xp T e s1 3 with ⟨x, s2⟩
    have w3 := XO (by decide) h4 w2
    have w4 := wP (e := e) (x := (⟨#[61]⟩ : ByteArray)) (xa (l := [61]) (by simp)) w3
    simp only
    rcases h5 : R (xf T e s2 (⟨#[61]⟩ : ByteArray)) with ⟨a, s3⟩
    have w5 := wr h5 w4
    have w6 := wP (e := e) (x := (⟨#[105, 110]⟩ : ByteArray)) (xa (l := [105, 110]) (by simp)) w5
    simp only
    rcases h6 : R (xf T e s3 (⟨#[105, 110]⟩ : ByteArray)) with ⟨b, s4⟩
    exact ex_rec hT d hd s z0 n0 h1 h2 h3 h4 rfl (hr h5 w4) rfl (hr h6 w6)
   ·rw [if_neg h2]
    rcases h4 : xp T e (advS s) 3 with ⟨x, s2⟩
    have w3 := XO (by decide) h4 w0
    have w4 := wP (e := e) (x := (⟨#[61]⟩ : ByteArray)) (xa (l := [61]) (by simp)) w3
    simp only
    rcases h5 : R (xf T e s2 (⟨#[61]⟩ : ByteArray)) with ⟨a, s3⟩
    have w5 := wr h5 w4
    have w6 := wP (e := e) (x := (⟨#[105, 110]⟩ : ByteArray)) (xa (l := [105, 110]) (by simp)) w5
    simp only
    rcases h6 : R (xf T e s3 (⟨#[105, 110]⟩ : ByteArray)) with ⟨b, s4⟩
    exact ex_let hT d hd s z0 n0 h1 (Bool.eq_false_iff.2 h2) h4 rfl (hr h5 w4) rfl (hr h6 w6)
  rw [if_neg h1]
  have n1 := Bool.eq_false_iff.2 h1
  by_cases h2 : isS T e s (⟨#[105, 102]⟩ : ByteArray) = true
  ·rw [if_pos h2]
   have w0 := (Mo.advS h2 (xa (l := [105, 102]) (by simp))).wf hs
   rcases h3 : R (advS s) with ⟨a, s1⟩
   have w1 := wr h3 w0
   have w2 := wP (e := e) (x := (⟨#[116, 104, 101, 110]⟩ : ByteArray)) (xa (l := [116, 104, 101, 110]) (by simp)) w1
   simp only
   rcases h4 : R (xf T e s1 (⟨#[116, 104, 101, 110]⟩ : ByteArray)) with ⟨b, s2⟩
   have w3 := wr h4 w2
   have w4 := wP (e := e) (x := (⟨#[101, 108, 115, 101]⟩ : ByteArray)) (xa (l := [101, 108, 115, 101]) (by simp)) w3
   simp only
   rcases h5 : R (xf T e s2 (⟨#[101, 108, 115, 101]⟩ : ByteArray)) with ⟨c, s3⟩
   exact ex_if hT d hd s z0 n0 n1 h2 (hr h3 w0) rfl (hr h4 w2) rfl (hr h5 w4)
  rw [if_neg h2]
  have n2 := Bool.eq_false_iff.2 h2
  by_cases h3 : isS T e s (⟨#[109, 97, 116, 99, 104]⟩ : ByteArray) = true
  ·rw [if_pos h3]
   have w0 := (Mo.advS h3 (xa (l := [109, 97, 116, 99, 104]) (by simp))).wf hs
   have hm := xac hT hTn hRb d hd' hR (tokS T e s).at_ (advS s) w0
   rcases h4 : wI T e R (tokS T e s).at_ (advS s) with ⟨a, s1⟩
   rw [h4] at hm
   exact ex_match hT d hd s z0 n0 n1 n2 h3 hm
  rw [if_neg h3]
  have n3 := Bool.eq_false_iff.2 h3
  by_cases h4 : isS T e s (⟨#[116, 114, 121]⟩ : ByteArray) = true
  ·rw [if_pos h4]
   have w0 := (Mo.advS h4 (xa (l := [116, 114, 121]) (by simp))).wf hs
   rcases h5 : R (advS s) with ⟨a, s1⟩
   have w1 := wr h5 w0
   have w2 := wP (e := e) (x := (⟨#[119, 105, 116, 104]⟩ : ByteArray)) (xa (l := [119, 105, 116, 104]) (by simp)) w1
   simp only
   rcases h6 : xp T e (xf T e s1 (⟨#[119, 105, 116, 104]⟩ : ByteArray)) 3 with ⟨x, s2⟩
   have w3 := XO (by decide) h6 w2
   have w4 := wP (e := e) (x := (⟨#[45, 62]⟩ : ByteArray)) (xa (l := [45, 62]) (by simp)) w3
   simp only
   rcases h7 : R (xf T e s2 (⟨#[45, 62]⟩ : ByteArray)) with ⟨b, s3⟩
   exact ex_try hT d hd s z0 n0 n1 n2 n3 h4 (hr h5 w0) rfl h6 rfl (hr h7 w4) rfl
  rw [if_neg h4]
  have n4 := Bool.eq_false_iff.2 h4
  have ha := c_l03Set hT hRb d hd' hR (T.length + 1) s (by omega) hs
  have ma := (set_b hRb (e := e) (T.length + 1) s).1.wf hs
  rcases h5 : setF T e R (T.length + 1) s with ⟨a, s1⟩
  rw [h5] at ha ma
  simp only
  by_cases h6 : isS T e s1 (⟨#[59]⟩ : ByteArray) = true
  ·rw [if_pos h6]
   have w1 := (Mo.advS h6 (xa (l := [59]) (by simp))).wf ma
   rcases h7 : R (advS s1) with ⟨b, s2⟩
   exact ex_seq hT d hd s z0 n0 n1 n2 n3 n4 ha h6 (hr h7 w1)
  ·rw [if_neg h6]
   exact ex_set hT d hd s z0 n0 n1 n2 n3 n4 ha (Bool.eq_false_iff.2 h6)
 ·rw [if_neg z0]; exact ex_stop d s z0
theorem c_l03Expr (hT : T.length <= 10000) (hTn : ∀ t ∈ T, -4611686018427387904 <= t.n /\ t.n <= 4611686018427387904) : ∀ k : Nat, k <= 101 -> CExp T e (uC T e k) (101 - k) := fun k => by
 induction k with
 | zero =>
  intro _ s hs
  unfold uC
  by_cases z0 : s.code = 0
  ·rw [if_pos z0]; exact ex_end s z0
  ·rw [if_neg z0]; exact ex_stop _ s z0
 | succ k ih =>
  intro hk s hs
  have h := ih (by omega)
  rw [show (101 : Int) - (k : Nat) = 101 - ((k + 1 : Nat) : Int) + 1 by omega] at h
  exact Q7 hT hTn (WJ k) _ (by omega) h s hs
end
end Go.Proofs.YtgcdbmcoendcdaaGreat
namespace Go.Proofs.YtgcdbmcoendcdaaGreat
open Go.RowKit
def vU (name : ByteArray) (l : List MTy) : List TyI := ⟨0, name, l.length⟩ :: l.flatMap MTy.items
def accN (name : ByteArray) (l : List MTy) (k : Nat) : List TyI := ⟨0, name, l.length⟩ :: (l.take k).flatMap MTy.items
theorem accN_zero (name : ByteArray) (l : List MTy) : accN name l 0 = [⟨0, name, l.length⟩] := rfl
theorem Uu (name : ByteArray) (l : List MTy) {k : Nat} (h : k < l.length) : accN name l (k + 1) = accN name l k ++ l[k].items := by
 unfold accN
 rw [List.take_succ_eq_append_getElem h, List.flatMap_append]; simp
theorem accN_le (name : ByteArray) (l : List MTy) (hi : ∀ t ∈ l, t.items.length <= 100000) : ∀ k, k <= l.length -> (accN name l k).length <= 1 + 100000 * k
 | 0, _ => by simp [accN]
 | k + 1, h => by
  have := accN_le name l hi k (by omega)
  have h2 := hi _ (List.getElem_mem (show k < l.length from h))
  rw [Uu name l h, List.length_append]; omega
theorem Wy (name : ByteArray) (l : List MTy) (hl : l.length <= 2) (hi : ∀ t ∈ l, t.items.length <= 100000) : FCon Tryz.prog 242 [.s (.string name), .sl 1 (l.map MTy.enc)] (fun r _ => r = .ag [.osl 159 3 ((vU name l).map TyI.own)]) := by
 have hall : accN name l l.length = vU name l := by unfold accN vU; rw [List.take_length]
 refine FI PM Tryz.func242 Tryz.ntmps242 [(5, 7, [], [], (lin [] [0, 1, 2, 3, 4, 5, 6]))] rfl rfl ?_
 (have hWf := f0; repeat' (first | refine zS ?_ | refine zI ?_ ?_ | exact zF0 | refine zD fun hb => ?_ | exact zC | refine zT ?_ | fail))
 refine xk (fun n σ => ∃ k na : Nat, na = (accN name l k).length /\ k <= l.length /\ n = l.length - k /\ σ.t 1 = .sl 1 (l.map MTy.enc) /\ σ.t 4 = .bx 4 0 /\ σ.b 4 = some (.box [.nil]) /\ σ.t 5 = .bx 5 0 /\ σ.b 5 = some (.box [.bs 11 3 na]) /\ σ.b 11 = some (.arr 159 3 ((accN name l k).map TyI.own)) /\ σ.t 14 = .s (.int .i64 l.length) /\ σ.t 15 = .s (.int .i64 k)) l.length ⟨0, 1, rfl, by omega, by omega, ?_⟩ ?_
 ·simp only [go_sem, simprocAttr, Int.natCast_zero, accN_zero, TyI.own_eq]
 ·rintro n σ ⟨k, na, hna, hk, rfl, h1, h4, hb4, h5, hb5, hb11, h14, h15⟩ K' hK
  by_cases hlt : k < l.length
  ·have hx := xh MTy.enc l k hlt
   have he := MTy.enc_eq l[k]
   have e3 := Uu name l hlt
   have hle := accN_le name l hi (k + 1) hlt
   rw [e3, List.length_append, <- hna] at hle
   have hk3 : 1 + 100000 * (k + 1) <= 1000000 := by omega
   have hle := Nat.le_trans hle hk3
   have hlen : ((accN name l k).map TyI.own).length = na := by rw [List.length_map, hna]
   obtain ⟨its, hits⟩ : ∃ its, l[k].items = its := ⟨_, rfl⟩
   rw [hits] at he e3 hle
   clear hits
   have hnew : na + its.length = (accN name l (k + 1)).length := by rw [e3, List.length_append, <- hna]
   have e3 := congrArg (List.map TyI.own) e3
   rw [List.map_append] at e3
   obtain ⟨ak, hak⟩ : ∃ ak, (accN name l k).map TyI.own = ak := ⟨_, rfl⟩
   rw [hak] at hlen e3 hb11
   have e3 := Lib.hid e3
   have hnew := Lib.hid hnew
   clear hak hna hk3
   (have hWf := w11 @h1 @h4 @hb4 @h5 @hb5 @hb11 @h14 @h15 @hx @he @hlen; repeat' (first | refine zS ?_ | refine zI ?_ ?_ | exact zF0 | refine zD fun hb => ?_ | exact zC | refine zT ?_ | fail))
   refine hK (l.length - (k + 1)) _ (by omega) ⟨k + 1, na + its.length, hnew.out, by omega, rfl, ?_⟩
   simp only [go_sem, simprocAttr, h1, h4, hb4, h5, hb5, hb11, h14, h15, Int.natCast_succ, e3.out]
  ·obtain rfl : k = l.length := by omega
   rw [hall] at hb11 hna
   (have hWf := w9 @h1 @h4 @hb4 @h5 @hb5 @hb11 @h14 @h15 @hna; repeat' (first | refine zS ?_ | refine zI ?_ ?_ | exact zF0 | refine zD fun hb => ?_ | exact zC | refine zT ?_ | fail))
theorem Qw (name : ByteArray) : FCon Tryz.prog 242 [.s (.string name), .nil] (fun r _ => r = .ag [.osl 159 3 ([(⟨0, name, 0⟩ : TyI)].map TyI.own)]) := by
 refine FI PM Tryz.func242 Tryz.ntmps242 [(5, 7, [], [], (lin [] [0, 1, 2, 3, 4, 5, 6]))] rfl rfl ?_
 (have hWf := f0; repeat' (first | refine zS ?_ | refine zI ?_ ?_ | exact zF0 | refine zD fun hb => ?_ | exact zC | refine zT ?_ | fail))
 refine xk (fun n σ => n = 0 /\ σ.t 4 = .bx 4 0 /\ σ.b 4 = some (.box [.nil]) /\ σ.t 5 = .bx 5 0 /\ σ.b 5 = some (.box [.bs 11 3 1]) /\ σ.b 11 = some (.arr 159 3 ([(⟨0, name, 0⟩ : TyI)].map TyI.own)) /\ σ.t 14 = .s (.int .i64 0) /\ σ.t 15 = .s (.int .i64 0)) 0 ⟨rfl, ?_⟩ ?_
 ·simp only [go_sem, simprocAttr, TyI.own_eq]
 ·rintro n σ ⟨rfl, h4, hb4, h5, hb5, hb11, h14, h15⟩ K' hK
  (have hWf := w7 @h4 @hb4 @h5 @hb5 @hb11 @h14 @h15; repeat' (first | refine zS ?_ | refine zI ?_ ?_ | exact zF0 | refine zD fun hb => ?_ | exact zC | refine zT ?_ | fail))
theorem FCon.tyNil {P : Program} {f : FuncId} {args : List D} {o : List D} (h : FCon P f args (fun r o' => r = .ag [.nil] /\ o' = o)) : FCon P f args (fun r o' => r = .ag [.osl 159 3 []] /\ o' = o) := h.wk fun r o' e => by
 obtain ⟨rfl, rfl⟩ := e
 refine ⟨_, ⟨rfl, rfl⟩, fun g w v q => ?_⟩
 obtain ⟨us, rfl, hl, hc⟩ := q
 refine ⟨us, rfl, by simpa using hl, fun l x u hx hu => ?_⟩
 match l, hx with
 | 0, hx => exact (by simpa using hx) ▸ Rep.nil_osl 159 3 (hc 0 _ u rfl hu)
theorem named_ty1 (name : ByteArray) (a : List TyI) : vU name [⟨a⟩] = ty1 name [a] := by simp [vU, ty1]
theorem named_ty2 (name : ByteArray) (a b : List TyI) : vU name [⟨a⟩, ⟨b⟩] = ty1 name [a, b] := by simp [vU, ty1]
theorem c_named1 (name : ByteArray) (a : List TyI) (ha : a.length <= 100000) : FCon Tryz.prog 242 [.s (.string name), .sl 1 [[.sl 3 (a.map TyI.enc)]]] (fun r _ => r = .ag [.osl 159 3 ((ty1 name [a]).map TyI.own)]) := by
 have := Wy name [⟨a⟩] (by simp) (by simpa using ha)
 rw [named_ty1] at this
 exact this
theorem ZH (name : ByteArray) (a b : List TyI) (ha : a.length <= 100000) (hb : b.length <= 100000) : FCon Tryz.prog 242 [.s (.string name), .sl 1 [[.sl 3 (a.map TyI.enc)], [.sl 3 (b.map TyI.enc)]]] (fun r _ => r = .ag [.osl 159 3 ((ty1 name [a, b]).map TyI.own)]) := by
 have := Wy name [⟨a⟩, ⟨b⟩] (by simp) (by simpa using ⟨ha, hb⟩)
 rw [named_ty2] at this
 exact this
theorem Qy (T : List MTok) (e : Int) (s : PS) (hT : T.length <= 10000) (h : tywT (tokS T e s) = true) : FCon Tryz.prog 261 [.opt (rdD T e s)] (fun r o => r = .s (.string (tokS T e s).s) /\ o = [.opt (rdD T e (advS s))]) := by
 have ht := xj T e s
 have hw := Zt T e s
 rw [h] at hw
 have hl := (xK (Wf h)).2
 unfold advS
 generalize tokS T e s = t at *
 rw [xg, MTok.enc_eq] at ht
 rw [xg] at hw
 rw [xb, xb]
 refine FI PM Tryz.func261 Tryz.ntmps261 [] rfl rfl ?_
 (have hWf := w2 @xe @xd; repeat' (first | refine zS ?_ | refine zI ?_ ?_ | refine zK (ht) ?_ | refine zK (hw) ?_ | exact zF0 | refine zD fun hb => ?_ | exact zC | refine zT ?_ | fail))
 all_goals rfl
theorem xaC (v : Int) (l : List Int) : ∀ (k q r : Nat), k < l.length -> zy v (l.take (k + 1)) q r = if l.getD k 0 = v then q + k else zy v (l.take k) q r := by
 induction l with
 | nil => intro k q r h; simp at h
 | cons x l ih =>
  intro k q r h
  cases k with
  | zero =>
   simp only [List.take_succ_cons, List.take_zero, zy, List.getD_cons_zero, Nat.add_zero]
  | succ k =>
   rw [List.take_succ_cons, List.take_succ_cons, zy, zy, ih k _ _ (by simpa using h), List.getD_cons_succ]
   split
   ·omega
   ·rfl
theorem UK (v : Int) (l : List Int) (k : Nat) (h : k < l.length) : (l.take (k + 1)).contains v = ((l.take k).contains v || (l[k] == v)) := by
 rw [vP, vP, XR _ l h]
def CTy (T : List MTok) (e : Int) (R : PS -> List TyI × PS) (d : Int) : Prop := ∀ s : PS, s.i <= T.length -> s.vars.length <= 1000 -> FCon Tryz.prog 202 [.opt (rdD T e s), .s (.int .i64 d)] (fun r o => r = .ag [.osl 159 3 ((R s).1.map TyI.own)] /\ o = [.opt (rdD T e (R s).2), .un])
section
variable {T : List MTok} {e : Int} {R : PS -> List TyI × PS}
theorem atom0_var (hT : T.length <= 10000) (d : Int) (s : PS) (hs : s.i <= T.length) (hv : s.vars.length <= 1000) (h5 : (tokS T e s).kind = 5) : FCon Tryz.prog 259 [.opt (rdD T e s), .s (.int .i64 d)] (fun r o => r = .ag [.osl 159 3 ((x8 T e R s).1.map TyI.own)] /\ o = [.opt (rdD T e (x8 T e R s).2), .un]) := by
 have ht := xj T e s
 have hf := yz T e s 7
 have hlt0 := (xK (by rw [h5]; decide)).2
 have hd : x8 T e R s = if s.vars.contains (tokS T e s).n = true then ([⟨(zy (tokS T e s).n s.vars 0 0 : Nat), nS, 0⟩], advS s) else ([], xx T e s 7) := by unfold x8; rw [if_pos h5]
 rw [hd]
 clear hd
 generalize tokS T e s = t at *
 have f5 := kT h5
 rw [MTok.enc_eq, xg] at ht
 have hcon : s.vars.contains t.n = (s.vars.take s.vars.length).contains t.n := by rw [List.take_length]
 by_cases hc : s.vars.contains t.n = true
 ·rw [if_pos hc]
  show FCon _ _ _ (fun r o => r = .ag [.osl 159 3 [[.s (.int .i64 (zy t.n s.vars 0 0 : Nat)), .s (.string nS), .s (.int .i64 0)]]] /\ o = [.opt (rdD T e (advS s)), .un])
  unfold advS
  rw [xb, xb]
  refine FI PM Tryz.func259 Tryz.ntmps259 [] rfl rfl ?_
  (have hWf := w3 @xe @xd @f5; repeat' (first | refine zS ?_ | refine zI ?_ ?_ | refine zK (ht) ?_ | exact zF0 | refine zD fun hb => ?_ | exact zC | refine zT ?_ | fail))
  refine xk (fun n σ => ∃ k : Nat, k <= s.vars.length /\ n = s.vars.length - k /\ σ.t 0 = .bx 900000 0 /\ σ.b 900000 = some (.box [.sl 4 (T.map MTok.enc), .s (.int .i64 s.i), .s (.int .i64 e), .s (.int .i64 s.code), .s (.int .i64 s.at_), .sl 1 (s.vars.map iE), .bs 7900000 1 s.seen.length]) /\ σ.b 7900000 = some (.arr 9 1 (s.seen.map stE)) /\ σ.t 4 = .bx 4 0 /\ σ.b 4 = some (.box [.nil]) /\ σ.t 5 = .bx 5 0 /\ σ.b 5 = some (.box [.s (.int .i64 t.kind), .s (.int .i64 t.n), .s (.string t.s), .s (.int .i64 t.at_)]) /\ σ.t 6 = .s (.bool ((s.vars.take k).contains t.n)) /\ σ.t 23 = .sl 1 (s.vars.map iE) /\ σ.t 24 = .s (.int .i64 s.vars.length) /\ σ.t 25 = .s (.int .i64 k)) s.vars.length ⟨0, by omega, by omega, ?_⟩ ?_
  ·simp only [go_sem, simprocAttr, Int.natCast_zero, List.take_zero]
   all_goals rfl
  ·rintro n σ ⟨k, hk, rfl, h0, b0, b7, h4, b4, h5', b5, h6, h23, h24, h25⟩ K' hK
   by_cases hlt : k < s.vars.length
   ·have hx := xh iE s.vars k hlt
    have he : iE s.vars[k] = [.s (.int .i64 s.vars[k])] := rfl
    have hct := UK t.n s.vars k hlt
    rcases Bool.eq_false_or_eq_true (s.vars[k] == t.n) with qn | qn
    ·rw [qn, Bool.or_true] at hct
     (have hWf := w14 @h0 @b0 @b7 @h4 @b4 @h5' @b5 @h6 @h23 @h24 @h25 @hx @he @qn; repeat' (first | refine zS ?_ | refine zI ?_ ?_ | exact zF0 | refine zD fun hb => ?_ | exact zC | refine zT ?_ | fail))
     refine hK (s.vars.length - (k + 1)) _ (by omega) ⟨k + 1, by omega, rfl, ?_⟩
     simp only [go_sem, simprocAttr, h0, b0, b7, h4, b4, h5', b5, h6, h23, h24, h25, Int.natCast_succ, hct]
    ·rw [qn, Bool.or_false] at hct
     (have hWf := w14 @h0 @b0 @b7 @h4 @b4 @h5' @b5 @h6 @h23 @h24 @h25 @hx @he @qn; repeat' (first | refine zS ?_ | refine zI ?_ ?_ | exact zF0 | refine zD fun hb => ?_ | exact zC | refine zT ?_ | fail))
     refine hK (s.vars.length - (k + 1)) _ (by omega) ⟨k + 1, by omega, rfl, ?_⟩
     simp only [go_sem, simprocAttr, h0, b0, b7, h4, b4, h5', b5, h6, h23, h24, h25, Int.natCast_succ, hct]
   ·obtain rfl : k = s.vars.length := by omega
    rw [List.take_length, hc] at h6
    (have hWf := w11 @h0 @b0 @b7 @h4 @b4 @h5' @b5 @h6 @h23 @h24 @h25; repeat' (first | refine zS ?_ | refine zI ?_ ?_ | exact zF0 | refine zD fun hb => ?_ | exact zC | refine zT ?_ | fail))
    refine xk (fun n σ => ∃ k : Nat, k <= s.vars.length /\ n = s.vars.length - k /\ σ.t 0 = .bx 900000 0 /\ σ.b 900000 = some (.box [.sl 4 (T.map MTok.enc), .s (.int .i64 (s.i + 1)), .s (.int .i64 e), .s (.int .i64 s.code), .s (.int .i64 s.at_), .sl 1 (s.vars.map iE), .bs 7900000 1 s.seen.length]) /\ σ.b 7900000 = some (.arr 9 1 (s.seen.map stE)) /\ σ.t 4 = .bx 4 0 /\ σ.b 4 = some (.box [.nil]) /\ σ.t 5 = .bx 5 0 /\ σ.b 5 = some (.box [.s (.int .i64 t.kind), .s (.int .i64 t.n), .s (.string t.s), .s (.int .i64 t.at_)]) /\ σ.t 9 = .bx 9 0 /\ σ.b 9 = some (.box [.bs 47 3 1]) /\ σ.b 47 = some (.arr 159 3 [[.s (.int .i64 (zy t.n (s.vars.take k) 0 0 : Nat)), .s (.string nS), .s (.int .i64 0)]]) /\ σ.t 52 = .sl 1 (s.vars.map iE) /\ σ.t 53 = .s (.int .i64 s.vars.length) /\ σ.t 54 = .s (.int .i64 k)) s.vars.length ⟨0, by omega, by omega, ?_⟩ ?_
    ·simp only [go_sem, simprocAttr, h0, b0, b7, h4, b4, h5', b5, Int.natCast_zero, List.take_zero, zy]
     all_goals rfl
    ·rintro n σ ⟨k, hk, rfl, h0, b0, b7, h4, b4, h5', b5, h9, b9, b47, h52, h53, h54⟩ K'' hK'
     by_cases hlt : k < s.vars.length
     ·have hx := xh iE s.vars k hlt
      have he : iE s.vars[k] = [.s (.int .i64 s.vars[k])] := rfl
      have hla := xaC t.n s.vars k 0 0 hlt
      rw [List.getD_eq_getElem?_getD, List.getElem?_eq_getElem hlt, Option.getD_some, Nat.zero_add] at hla
      by_cases zn : s.vars[k] = t.n
      ·rw [if_pos zn] at hla
       have qn := kT zn
       (have hWf := w16 @h0 @b0 @b7 @h4 @b4 @h5' @b5 @h9 @b9 @b47 @h52 @h53 @h54 @hx @he @qn; repeat' (first | refine zS ?_ | refine zI ?_ ?_ | exact zF0 | refine zD fun hb => ?_ | exact zC | refine zT ?_ | fail))
       refine hK' (s.vars.length - (k + 1)) _ (by omega) ⟨k + 1, by omega, rfl, ?_⟩
       simp only [go_sem, simprocAttr, h0, b0, b7, h4, b4, h5', b5, h9, b9, b47, h52, h53, h54, Int.natCast_succ, hla]
       all_goals rfl
      ·rw [if_neg zn] at hla
       have qn := kF zn
       (have hWf := w16 @h0 @b0 @b7 @h4 @b4 @h5' @b5 @h9 @b9 @b47 @h52 @h53 @h54 @hx @he @qn; repeat' (first | refine zS ?_ | refine zI ?_ ?_ | exact zF0 | refine zD fun hb => ?_ | exact zC | refine zT ?_ | fail))
       refine hK' (s.vars.length - (k + 1)) _ (by omega) ⟨k + 1, by omega, rfl, ?_⟩
       simp only [go_sem, simprocAttr, h0, b0, b7, h4, b4, h5', b5, h9, b9, b47, h52, h53, h54, Int.natCast_succ, hla]
     ·obtain rfl : k = s.vars.length := by omega
      rw [List.take_length] at b47
      (have hWf := w13 @h0 @b0 @b7 @h4 @b4 @h5' @b5 @h9 @b9 @b47 @h52 @h53 @h54; repeat' (first | refine zS ?_ | refine zI ?_ ?_ | exact zF0 | refine zD fun hb => ?_ | exact zC | refine zT ?_ | fail))
      all_goals rfl
 ·have hcf : s.vars.contains t.n = false := by simpa using hc
  rw [if_neg hc]
  show FCon _ _ _ (fun r o => r = .ag [.osl 159 3 []] /\ o = [.opt (rdD T e (xx T e s 7)), .un])
  refine FCon.tyNil ?_
  rw [xb, xb] at hf
  rw [xb, xb]
  refine FI PM Tryz.func259 Tryz.ntmps259 [] rfl rfl ?_
  (have hWf := w3 @xe @xd @f5; repeat' (first | refine zS ?_ | refine zI ?_ ?_ | refine zK (ht) ?_ | exact zF0 | refine zD fun hb => ?_ | exact zC | refine zT ?_ | fail))
  refine xk (fun n σ => ∃ k : Nat, k <= s.vars.length /\ n = s.vars.length - k /\ σ.t 0 = .bx 900000 0 /\ σ.b 900000 = some (.box [.sl 4 (T.map MTok.enc), .s (.int .i64 s.i), .s (.int .i64 e), .s (.int .i64 s.code), .s (.int .i64 s.at_), .sl 1 (s.vars.map iE), .bs 7900000 1 s.seen.length]) /\ σ.b 7900000 = some (.arr 9 1 (s.seen.map stE)) /\ σ.t 4 = .bx 4 0 /\ σ.b 4 = some (.box [.nil]) /\ σ.t 5 = .bx 5 0 /\ σ.b 5 = some (.box [.s (.int .i64 t.kind), .s (.int .i64 t.n), .s (.string t.s), .s (.int .i64 t.at_)]) /\ σ.t 6 = .s (.bool ((s.vars.take k).contains t.n)) /\ σ.t 23 = .sl 1 (s.vars.map iE) /\ σ.t 24 = .s (.int .i64 s.vars.length) /\ σ.t 25 = .s (.int .i64 k)) s.vars.length ⟨0, by omega, by omega, ?_⟩ ?_
  ·simp only [go_sem, simprocAttr, Int.natCast_zero, List.take_zero]
   all_goals rfl
  ·rintro n σ ⟨k, hk, rfl, h0, b0, b7, h4, b4, h5', b5, h6, h23, h24, h25⟩ K' hK
   by_cases hlt : k < s.vars.length
   ·have hx := xh iE s.vars k hlt
    have he : iE s.vars[k] = [.s (.int .i64 s.vars[k])] := rfl
    have hct := UK t.n s.vars k hlt
    rcases Bool.eq_false_or_eq_true (s.vars[k] == t.n) with qn | qn
    ·rw [qn, Bool.or_true] at hct
     (have hWf := w14 @h0 @b0 @b7 @h4 @b4 @h5' @b5 @h6 @h23 @h24 @h25 @hx @he @qn; repeat' (first | refine zS ?_ | refine zI ?_ ?_ | exact zF0 | refine zD fun hb => ?_ | exact zC | refine zT ?_ | fail))
     refine hK (s.vars.length - (k + 1)) _ (by omega) ⟨k + 1, by omega, rfl, ?_⟩
     simp only [go_sem, simprocAttr, h0, b0, b7, h4, b4, h5', b5, h6, h23, h24, h25, Int.natCast_succ, hct]
    ·rw [qn, Bool.or_false] at hct
     (have hWf := w14 @h0 @b0 @b7 @h4 @b4 @h5' @b5 @h6 @h23 @h24 @h25 @hx @he @qn; repeat' (first | refine zS ?_ | refine zI ?_ ?_ | exact zF0 | refine zD fun hb => ?_ | exact zC | refine zT ?_ | fail))
     refine hK (s.vars.length - (k + 1)) _ (by omega) ⟨k + 1, by omega, rfl, ?_⟩
     simp only [go_sem, simprocAttr, h0, b0, b7, h4, b4, h5', b5, h6, h23, h24, h25, Int.natCast_succ, hct]
   ·obtain rfl : k = s.vars.length := by omega
    rw [List.take_length, hcf] at h6
    (have hWf := w11 @h0 @b0 @b7 @h4 @b4 @h5' @b5 @h6 @h23 @h24 @h25; repeat' (first | refine zS ?_ | refine zI ?_ ?_ | refine zH hf ?_ | exact zF0 | refine zD fun hb => ?_ | exact zC | refine zT ?_ | fail))
    all_goals rfl
theorem wi (l : List TyI) : xJ (l.map TyI.own) = l.map TyI.enc := TyI.frzS l
theorem xaa (hT : T.length <= 10000) (d : Int) (hd0 : 0 <= d) (hd1 : d <= 1000) (hR : CTy T e R (d + 1)) (hb : ∀ s, Bd T s (R s).2 (R s).1.length) (hvv : ∀ s, (R s).2.vars = s.vars) (s : PS) (hs : s.i <= T.length) (hv : s.vars.length <= 1000) : FCon Tryz.prog 259 [.opt (rdD T e s), .s (.int .i64 d)] (fun r o => r = .ag [.osl 159 3 ((x8 T e R s).1.map TyI.own)] /\ o = [.opt (rdD T e (x8 T e R s).2), .un]) := by
 by_cases h5 : (tokS T e s).kind = 5
 ·exact atom0_var hT d s hs hv h5
 have f5 := kF h5
 have ht := xj T e s
 by_cases h3 : (tokS T e s).kind = 3
 ·have hlt0 := (xK (by rw [h3]; decide)).2
  rw [show x8 T e R s = (ty1 (tokS T e s).s [], advS s) by unfold x8; rw [if_neg h5, if_pos h3]]
  have f3 := kT h3
  have hn := Qw (tokS T e s).s
  generalize tokS T e s = t at *
  rw [MTok.enc_eq, xg] at ht
  show FCon _ _ _ (fun r o => r = .ag [.osl 159 3 ([(⟨0, t.s, 0⟩ : TyI)].map TyI.own)] /\ o = [.opt (rdD T e (advS s)), .un])
  unfold advS
  rw [xb, xb]
  refine FI PM Tryz.func259 Tryz.ntmps259 [] rfl rfl ?_
  (have hWf := w4 @xe @xd @f5 @f3; repeat' (first | refine zS ?_ | refine zI ?_ ?_ | refine zK (ht) ?_ | refine zK (hn) ?_ | exact zF0 | refine zD fun hb => ?_ | exact zC | refine zT ?_ | fail))
  all_goals rfl
 have f3 := kF h3
 have b0 := wy (T := T) (e := e) s (xa (l := [40]) (by simp))
 have c0 := xy T e s (by omega) (⟨#[40]⟩ : ByteArray) (xa (l := [40]) (by simp))
 have hr1 := hR (xf T e s (⟨#[40]⟩ : ByteArray)) (b0.2 hs) (by rw [y8]; exact hv)
 have b1 := hb (xf T e s (⟨#[40]⟩ : ByteArray))
 have v1 := hvv (xf T e s (⟨#[40]⟩ : ByteArray))
 rw [y8] at v1
 have hd : x8 T e R s = match R (xf T e s (⟨#[40]⟩ : ByteArray)) with
  | (a, s1) => if isS T e s1 (⟨#[44]⟩ : ByteArray) = true then (match R (advS s1) with
    | (b, s2) => match xp T e (xf T e s2 (⟨#[41]⟩ : ByteArray)) 3 with
     | (nm, s3) => (ty1 nm [a, b], s3))
   else (a, xf T e s1 (⟨#[41]⟩ : ByteArray)) := by unfold x8; rw [if_neg h5, if_neg h3]
 rw [hd]
 clear hd
 have hi1 := b0.2 hs
 generalize xf T e s (⟨#[40]⟩ : ByteArray) = s0 at *
 generalize tokS T e s = t at *
 rcases hq : R s0 with ⟨a, s1⟩
 rw [hq] at hr1 b1 v1
 simp only at hr1 b1 v1 ⊢
 have his := xw T e s1 (⟨#[44]⟩ : ByteArray)
 have hi2 := b1.2 hi1
 have hal := b1.1
 rw [MTok.enc_eq, xg] at ht
 cases hc : isS T e s1 (⟨#[44]⟩ : ByteArray) with
 | true =>
  have bc := uh hc (xa (l := [44]) (by simp))
  have hlt1 := (xt hc (xa (l := [44]) (by simp))).2
  rw [hc] at his
  have hr2 := hR (advS s1) (bc.2 hi2) (by rw [uN, v1]; exact hv)
  have b2 := hb (advS s1)
  rw [if_pos rfl]
  rcases hq2 : R (advS s1) with ⟨b, s2⟩
  rw [hq2] at hr2 b2
  simp only at hr2 b2 ⊢
  have hi3 := b2.2 (bc.2 hi2)
  have hbl := b2.1
  have c2 := xy T e s2 (by omega) (⟨#[41]⟩ : ByteArray) (xa (l := [41]) (by simp))
  have hi4 := (wy (T := T) (e := e) s2 (xa (l := [41]) (by simp))).2 hi3
  generalize xf T e s2 (⟨#[41]⟩ : ByteArray) = s3 at *
  have c3 := yq T e s3 (by omega) 3 (by decide)
  rcases hq3 : xp T e s3 3 with ⟨nm, s4⟩
  rw [hq3] at c3
  simp only at c3 ⊢
  have hn := ZH nm a b (by omega) (by omega)
  unfold advS at hr2
  rw [xb, xb] at hr1 hr2 c0 c2 c3
  rw [xg] at his
  rw [xb, xb]
  refine FI PM Tryz.func259 Tryz.ntmps259 [] rfl rfl ?_
  (have hWf := w5 @xe @xd @wi @f5 @f3; repeat' (first | refine zS ?_ | refine zI ?_ ?_ | refine zK (ht) ?_ | refine zH c0 ?_ | refine zH hr1 ?_ | refine zK (his) ?_ | refine zH hr2 ?_ | refine zH c2 ?_ | refine zH c3 ?_ | refine zK (hn) ?_ | exact zF0 | refine zD fun hb => ?_ | exact zC | refine zT ?_ | fail))
  all_goals rfl
 | false =>
  rw [hc] at his
  rw [if_neg (by decide)]
  have c2 := xy T e s1 (by omega) (⟨#[41]⟩ : ByteArray) (xa (l := [41]) (by simp))
  generalize xf T e s1 (⟨#[41]⟩ : ByteArray) = s3 at *
  rw [xb, xb] at hr1 c0 c2
  rw [xg] at his
  rw [xb, xb]
  refine FI PM Tryz.func259 Tryz.ntmps259 [] rfl rfl ?_
  (have hWf := w5 @xe @xd @wi @f5 @f3; repeat' (first | refine zS ?_ | refine zI ?_ ?_ | refine zK (ht) ?_ | refine zH c0 ?_ | refine zH hr1 ?_ | refine zK (his) ?_ | refine zH c2 ?_ | exact zF0 | refine zD fun hb => ?_ | exact zC | refine zT ?_ | fail))
  all_goals rfl
theorem FCon.tyIce {P : Program} {f : FuncId} {args : List D} {o : List D} {a : List TyI} (h : FCon P f args (fun r o' => r = .ag [.osl 159 3 (a.map TyI.own)] /\ o' = o)) : FCon P f args (fun r o' => r = .ag [.sl 3 (a.map TyI.enc)] /\ o' = o) := h.frz.mono fun r o' e => by
 obtain ⟨r0, ⟨rfl, rfl⟩, rfl⟩ := e
 refine ⟨?_, rfl⟩
 show D.ag [D.sl 3 (xJ (a.map TyI.own))] = _
 rw [wi]
theorem appl_stop {n : Nat} {a : List TyI} {s : PS} (h : ¬ (s.code = 0 /\ tywT (tokS T e s) = true)) : yu T e (n + 1) a s = (a, s) := by unfold yu; rw [if_neg h]
theorem appl_go {n : Nat} {a : List TyI} {s : PS} (h : s.code = 0 /\ tywT (tokS T e s) = true) : yu T e (n + 1) a s = yu T e n (ty1 (tokS T e s).s [a]) (advS s) := by
 conv => lhs; unfold yu
 rw [if_pos h]
theorem c_l03Prod (hT : T.length <= 10000) (d : Int) (hd0 : 0 <= d) (hd1 : d <= 1000) (hR : CTy T e R (d + 1)) (hb : ∀ s, Bd T s (R s).2 (R s).1.length) (hvv : ∀ s, (R s).2.vars = s.vars) : ∀ (n : Nat) (s : PS), T.length - s.i < n -> s.i <= T.length -> s.vars.length <= 1000 -> FCon Tryz.prog 241 [.opt (rdD T e s), .s (.int .i64 d)] (fun r o => r = .ag [.osl 159 3 ((yD T e R n s).1.map TyI.own)] /\ o = [.opt (rdD T e (yD T e R n s).2), .un]) := fun n => by
 induction n with
 | zero => intro s h; omega
 | succ n ih =>
  intro s hn hs hv
  have ca := xaa hT d hd0 hd1 hR hb hvv s hs hv
  have b0 := Vv hb (e := e) s
  have v0 := XT hvv (T := T) (e := e) s
  conv => rhs; unfold yD
  rcases hq0 : x8 T e R s with ⟨a0, s0⟩
  rw [hq0] at ca b0 v0
  simp only at ca b0 v0 ⊢
  have bA := appl_bd (T := T) (e := e) (T.length + 1) a0 s0
  have vA := Yv (T := T) (e := e) (T.length + 1) a0 s0
  rcases hqA : yu T e (T.length + 1) a0 s0 with ⟨a, s1⟩
  rw [hqA] at bA vA
  simp only at bA vA ⊢
  have hi0 := b0.2 hs
  have hi1 := bA.2.1 hi0
  have hal := b0.1
  have hal1 := bA.1
  have hv1 : s1.vars.length <= 1000 := by rw [vA, v0]; exact hv
  have hge : s.i <= s1.i := by have := bA.2.2; omega
  obtain ⟨F, hF⟩ : ∃ F, F = (if isS T e s1 (⟨#[42]⟩ : ByteArray) = true then (match yD T e R n (advS s1) with
     | (b, s2) => (ty1 (⟨#[42]⟩ : ByteArray) [a, b], s2)) else (a, s1)) := ⟨_, rfl⟩
  rw [<- hF]
  rw [xb, xb] at ca
  rw [xb]
  refine FI PM Tryz.func241 Tryz.ntmps241 [(3, 4, [1], [(1, 2), (1, 3)], (lin [1] [0, 2, 3, 1])), (6, 4, [3], [(3, 0)], (lin [3] [0, 1, 2, 3]))] rfl rfl ?_
  (have hWf := w2 @xe @xd; repeat' (first | refine zS ?_ | refine zI ?_ ?_ | refine zH ca ?_ | exact zF0 | refine zD fun hb => ?_ | exact zC | refine zT ?_ | fail))
  refine xk (fun n σ => ∃ (j nm : Nat) (a' : List TyI) (s' : PS), (nm = 1008 \/ nm = 1022) /\ n = T.length - s'.i /\ T.length - s'.i < j /\ s'.i <= T.length /\ a'.length <= 20000 + s'.i /\ yu T e j a' s' = (a, s1) /\ σ.t 0 = .bx 900000 0 /\ σ.b 900000 = some (.box [.sl 4 (T.map MTok.enc), .s (.int .i64 s'.i), .s (.int .i64 e), .s (.int .i64 s'.code), .s (.int .i64 s'.at_), .sl 1 (s'.vars.map iE), .bs 7900000 1 s'.seen.length]) /\ σ.b 7900000 = some (.arr 9 1 (s'.seen.map stE)) /\ σ.t 1 = .s (.int .i64 d) /\ σ.t 4 = .bx 4 0 /\ σ.b 4 = some (.box [.nil]) /\ σ.t 5 = .bx 5 0 /\ σ.b 5 = some (.box [.bs nm 3 a'.length]) /\ σ.b nm = some (.arr 159 3 (a'.map TyI.own))) (T.length - s0.i) ⟨T.length + 1, 1008, a0, s0, .inl rfl, rfl, by omega, hi0, by omega, hqA, ?_⟩ ?_
  ·simp only [go_sem, simprocAttr]
  ·rintro m σ ⟨j, nm, a', s', hnm, rfl, hj, hsi, hal', hap, h0, b9, b7, h1, h4, b4, h5, b5, bn⟩ K' hK
   obtain ⟨j, rfl⟩ : ∃ q, j = q + 1 := ⟨j - 1, by omega⟩
   have htw := Zt T e s'
   rw [xg] at htw
   by_cases hc : s'.code = 0 /\ tywT (tokS T e s') = true
   ·rw [appl_go hc] at hap
    have hlt := (xK (Wf hc.2)).2
    have f0 := kT hc.1
    have htn := Qy T e s' (by omega) hc.2
    rw [hc.2] at htw
    have hnd := c_named1 (tokS T e s').s a' (by omega)
    have hln : (ty1 (tokS T e s').s [a']).length = 1 + a'.length := ty1_len _ _
    unfold advS at htn
    rw [xb, xb] at htn
    refine ze nm (.arr 159 3 (a'.map TyI.own)) bn rfl ?_
    rcases hnm with rfl | rfl
    ·(have hWf := w13 @h0 @b9 @b7 @h1 @h4 @b4 @h5 @b5 @bn @xe @xd @wi @f0; repeat' (first | refine zS ?_ | refine zI ?_ ?_ | refine zK (htw) ?_ | refine zX (htn) ?_ | ((with_reducible apply xc); refine xm (htn) ?_; rintro _ _ ⟨rfl, rfl⟩) | refine zK (hnd) ?_ | exact zF0 | refine zD fun hb => ?_ | exact zC | refine zT ?_ | fail))
     refine hK (T.length - (s'.i + 1)) _ (by omega) ⟨j, 1022, ty1 (tokS T e s').s [a'], advS s', .inr rfl, rfl, by show T.length - (s'.i + 1) < j; omega, hlt, by rw [hln]; show 1 + a'.length <= 20000 + (s'.i + 1); omega, hap, ?_⟩
     simp only [go_sem, simprocAttr, h0, b9, b7, h1, h4, b4, h5, b5, bn, hln]
     exact ⟨rfl, rfl⟩
    ·(have hWf := w13 @h0 @b9 @b7 @h1 @h4 @b4 @h5 @b5 @bn @xe @xd @wi @f0; repeat' (first | refine zS ?_ | refine zI ?_ ?_ | refine zK (htw) ?_ | refine zX (htn) ?_ | ((with_reducible apply xc); refine xm (htn) ?_; rintro _ _ ⟨rfl, rfl⟩) | refine zK (hnd) ?_ | exact zF0 | refine zD fun hb => ?_ | exact zC | refine zT ?_ | fail))
     refine hK (T.length - (s'.i + 1)) _ (by omega) ⟨j, 1022, ty1 (tokS T e s').s [a'], advS s', .inr rfl, rfl, by show T.length - (s'.i + 1) < j; omega, hlt, by rw [hln]; show 1 + a'.length <= 20000 + (s'.i + 1); omega, hap, ?_⟩
     simp only [go_sem, simprocAttr, h0, b9, b7, h1, h4, b4, h5, b5, bn, hln]
     exact ⟨rfl, rfl⟩
   ·rw [appl_stop hc] at hap
    injection hap with e1 e2
    subst e1 e2
    have his := xw T e s' (⟨#[42]⟩ : ByteArray)
    rw [xg] at his
    cases hst : isS T e s' (⟨#[42]⟩ : ByteArray) with
    | true =>
     have hlt := xt hst (xa (l := [42]) (by simp))
     have f0 := kT hlt.1
     have htf : tywT (tokS T e s') = false := by
      cases q : tywT (tokS T e s') with
      | false => rfl
      | true => exact absurd ⟨hlt.1, q⟩ hc
     rw [htf] at htw
     rw [hst] at his
     rw [if_pos hst] at hF
     have hp := ih (advS s') (by show T.length - (s'.i + 1) < n; omega) hlt.2 hv1
     have bp := Ug hb (e := e) n (advS s')
     rcases hqp : yD T e R n (advS s') with ⟨b, s2⟩
     rw [hqp] at hp bp hF
     simp only at hp bp hF
     have hi2 := bp.2 hlt.2
     have hbl := bp.1
     have hnd := ZH (⟨#[42]⟩ : ByteArray) a' b (by omega) (by omega)
     subst hF
     unfold advS at hp
     rw [xb, xb] at hp
     show AC _ _ _ _ _ _
     simp only [xb]
     refine ze nm (.arr 159 3 (a'.map TyI.own)) bn rfl ?_
     rcases hnm with rfl | rfl
     ·(have hWf := w13 @h0 @b9 @b7 @h1 @h4 @b4 @h5 @b5 @bn @xe @xd @wi @f0; repeat' (first | refine zS ?_ | refine zI ?_ ?_ | refine zK (htw) ?_ | refine zK (his) ?_ | refine zX (hp) ?_ | ((with_reducible apply xc); refine xm (hp) ?_; rintro _ _ ⟨rfl, rfl⟩) | refine zK (hnd) ?_ | exact zF0 | refine zD fun hb => ?_ | exact zC | refine zT ?_ | fail))
      all_goals rfl
     ·(have hWf := w13 @h0 @b9 @b7 @h1 @h4 @b4 @h5 @b5 @bn @xe @xd @wi @f0; repeat' (first | refine zS ?_ | refine zI ?_ ?_ | refine zK (htw) ?_ | refine zK (his) ?_ | refine zX (hp) ?_ | ((with_reducible apply xc); refine xm (hp) ?_; rintro _ _ ⟨rfl, rfl⟩) | refine zK (hnd) ?_ | exact zF0 | refine zD fun hb => ?_ | exact zC | refine zT ?_ | fail))
      all_goals rfl
    | false =>
     rw [hst] at his
     rw [if_neg (by rw [hst]; decide)] at hF
     subst hF
     show AC _ _ _ _ _ _
     simp only [xb]
     by_cases z0 : s'.code = 0
     ·have f0 := kT z0
      have htf : tywT (tokS T e s') = false := by
       cases q : tywT (tokS T e s') with
       | false => rfl
       | true => exact absurd ⟨z0, q⟩ hc
      rw [htf] at htw
      rcases hnm with rfl | rfl
      ·(have hWf := w12 @h0 @b9 @b7 @h1 @h4 @b4 @h5 @b5 @bn @xe @xd @f0; repeat' (first | refine zS ?_ | refine zI ?_ ?_ | refine zK (htw) ?_ | refine zK (his) ?_ | exact zF0 | refine zD fun hb => ?_ | exact zC | refine zT ?_ | fail))
       all_goals rfl
      ·(have hWf := w12 @h0 @b9 @b7 @h1 @h4 @b4 @h5 @b5 @bn @xe @xd @f0; repeat' (first | refine zS ?_ | refine zI ?_ ?_ | refine zK (htw) ?_ | refine zK (his) ?_ | exact zF0 | refine zD fun hb => ?_ | exact zC | refine zT ?_ | fail))
       all_goals rfl
     ·have f0 := kF z0
      rcases hnm with rfl | rfl
      ·(have hWf := w12 @h0 @b9 @b7 @h1 @h4 @b4 @h5 @b5 @bn @xe @xd @f0; repeat' (first | refine zS ?_ | refine zI ?_ ?_ | refine zK (htw) ?_ | refine zK (his) ?_ | exact zF0 | refine zD fun hb => ?_ | exact zC | refine zT ?_ | fail))
       all_goals rfl
      ·(have hWf := w12 @h0 @b9 @b7 @h1 @h4 @b4 @h5 @b5 @bn @xe @xd @f0; repeat' (first | refine zS ?_ | refine zI ?_ ?_ | refine zK (htw) ?_ | refine zK (his) ?_ | exact zF0 | refine zD fun hb => ?_ | exact zC | refine zT ?_ | fail))
       all_goals rfl
theorem Qz (hT : T.length <= 10000) (d : Int) (hd0 : 0 <= d) (hd1 : d <= 100) (hR : CTy T e R (d + 1)) (hb : ∀ s, Bd T s (R s).2 (R s).1.length) (hvv : ∀ s, (R s).2.vars = s.vars) : CTy T e (zL T e R) d := by
 intro s hs hv
 have hdd : decide ((100 : Int) < d) = false := decide_eq_false (by omega)
 unfold zL
 by_cases z0 : s.code = 0
 ·have f0 := knT z0
  rw [if_pos z0]
  have hp := c_l03Prod hT d hd0 (by omega) hR hb hvv (T.length + 1) s (by omega) hs hv
  have bp := Ug hb (e := e) (T.length + 1) s
  have vp := YV hvv (T := T) (e := e) (T.length + 1) s
  rcases hq : yD T e R (T.length + 1) s with ⟨a, s1⟩
  rw [hq] at hp bp vp
  simp only at hp bp vp ⊢
  have hi1 := bp.2 hs
  have hal := bp.1
  have his := xw T e s1 (⟨#[45, 62]⟩ : ByteArray)
  cases hst : isS T e s1 (⟨#[45, 62]⟩ : ByteArray) with
  | true =>
   have hlt := xt hst (xa (l := [45, 62]) (by simp))
   rw [hst] at his
   rw [if_pos rfl]
   have hr := hR (advS s1) hlt.2 (by rw [uN, vp]; exact hv)
   have br := hb (advS s1)
   rcases hqr : R (advS s1) with ⟨b, s2⟩
   rw [hqr] at hr br
   simp only at hr br ⊢
   have hi2 := br.2 hlt.2
   have hbl := br.1
   have hnd := ZH (⟨#[45, 62]⟩ : ByteArray) a b (by omega) (by omega)
   have hp := hp.tyIce
   unfold advS at hr
   rw [xb, xb] at hr hp
   rw [xg] at his
   rw [xb, xb]
   refine FI PM Tryz.func202 Tryz.ntmps202 [(9, 5, [4], [(4, 0)], (lin [4] [0, 1, 2, 3, 4]))] rfl rfl ?_
   (have hWf := w5 @xe @xd @wi @f0 @hdd; repeat' (first | refine zS ?_ | refine zI ?_ ?_ | refine zH hp ?_ | refine zK (his) ?_ | refine zX (hr) ?_ | ((with_reducible apply xc); refine xm (hr) ?_; rintro _ _ ⟨rfl, rfl⟩) | refine zK (hnd) ?_ | exact zF0 | refine zD fun hb => ?_ | exact zC | refine zT ?_ | fail))
   all_goals rfl
  | false =>
   rw [hst] at his
   rw [if_neg (by decide)]
   rw [xb, xb] at hp
   rw [xg] at his
   rw [xb, xb]
   refine FI PM Tryz.func202 Tryz.ntmps202 [(9, 5, [4], [(4, 0)], (lin [4] [0, 1, 2, 3, 4]))] rfl rfl ?_
   (have hWf := w5 @xe @xd @wi @f0 @hdd; repeat' (first | refine zS ?_ | refine zI ?_ ?_ | refine zH hp ?_ | refine zK (his) ?_ | exact zF0 | refine zD fun hb => ?_ | exact zC | refine zT ?_ | fail))
   all_goals rfl
 ·have f0 := knF z0
  rw [if_neg z0]
  show FCon _ _ _ (fun r o => r = .ag [.osl 159 3 []] /\ o = [.opt (rdD T e s), .un])
  refine FCon.tyNil ?_
  rw [xb]
  refine FI PM Tryz.func202 Tryz.ntmps202 [(9, 5, [4], [(4, 0)], (lin [4] [0, 1, 2, 3, 4]))] rfl rfl ?_
  (have hWf := w1 @f0; repeat' (first | refine zS ?_ | refine zI ?_ ?_ | exact zF0 | refine zD fun hb => ?_ | exact zC | refine zT ?_ | fail))
  all_goals rfl
theorem xae (hT : T.length <= 10000) : CTy T e (tyF T e 0) 101 := by
 intro s hs hv
 unfold tyF
 by_cases z0 : s.code = 0
 ·have f0 := knT z0
  rw [if_pos z0]
  have hb := Vd T e s hv
  have hd := Yz T e s (XM T e s)
  show FCon _ _ _ (fun r o => r = .ag [.osl 159 3 []] /\ o = [.opt (rdD T e (zm T e s (XM T e s))), .un])
  refine FCon.tyNil ?_
  rw [xb, xb] at hd
  rw [xg] at hb
  rw [xb, xb]
  refine FI PM Tryz.func202 Tryz.ntmps202 [(9, 5, [4], [(4, 0)], (lin [4] [0, 1, 2, 3, 4]))] rfl rfl ?_
  (have hWf := w3 @xe @xd @f0; repeat' (first | refine zS ?_ | refine zI ?_ ?_ | refine zK (hb) ?_ | refine zH hd ?_ | exact zF0 | refine zD fun hb => ?_ | exact zC | refine zT ?_ | fail))
  all_goals rfl
 ·have f0 := knF z0
  rw [if_neg z0]
  show FCon _ _ _ (fun r o => r = .ag [.osl 159 3 []] /\ o = [.opt (rdD T e s), .un])
  refine FCon.tyNil ?_
  rw [xb]
  refine FI PM Tryz.func202 Tryz.ntmps202 [(9, 5, [4], [(4, 0)], (lin [4] [0, 1, 2, 3, 4]))] rfl rfl ?_
  (have hWf := w1 @f0; repeat' (first | refine zS ?_ | refine zI ?_ ?_ | exact zF0 | refine zD fun hb => ?_ | exact zC | refine zT ?_ | fail))
  all_goals rfl
theorem c_l03Ty (hT : T.length <= 10000) : ∀ k : Nat, k <= 101 -> CTy T e (tyF T e k) (101 - k) := fun k => by
 induction k with
 | zero => intro _; exact xae hT
 | succ k ih =>
  intro hk
  have := Qz (R := tyF T e k) hT (101 - ((k + 1 : Nat) : Int)) (by omega) (by omega) (by rw [show (101 : Int) - ((k + 1 : Nat) : Int) + 1 = 101 - (k : Int) by omega]; exact ih (by omega)) (ty_bd k) (Up k)
  exact this
end
end Go.Proofs.YtgcdbmcoendcdaaGreat
