/- Parts of the proof, laid together: HPatsI, HNamed, HInfS, InfT, HInfN, NilW, MeetC, HInfO, HCanS, HPatsS, HPatsL, HRdP. -/
import Derived.Deep.LoopGhost
import Derived.Deep.RegionLaw
import Derived.Deep.RegionWith
import Derived.Deep.Slices
import Derived.Laws.AppendOwn
import Derived.Laws.CopyRow
import Derived.Laws.Cover3
import Derived.Laws.EntriesVeiled
import Derived.Laws.Externs
import Derived.Laws.IdiomStrings
import Derived.Laws.StructEq
import Derived.Lib.AppendStr
import Derived.Lib.AppendZeros
import Derived.Lib.AppendZerosOnto
import Derived.Lib.Hide
import Derived.Lib.Overlaps
import Derived.ProofKit
import Derived.Test.YtmnokalddmlogaaGreatProg
import Derived.WalkKit
import Derived.Test.YtmnokalddmlogaaGreatP10
set_option linter.unusedSimpArgs false
set_option linter.unusedVariables false
set_option maxRecDepth 100000
set_option maxHeartbeats 8000000
namespace Go.Proofs.YtmnokalddmlogaaGreat
section
open Go.RowKit Arb
theorem FCon.tupO1 {P : Program} {f : FuncId} {args o : List D} {e k : Nat} {l : List D} (h : FCon P f args (fun r o' => r = .tup (.ag [.nil] :: l) /\ o' = o)) : FCon P f args (fun r o' => r = .tup (.ag [.osl e k []] :: l) /\ o' = o) := h.wk fun r o' q => by
 obtain ⟨rfl, rfl⟩ := q
 refine ⟨_, ⟨rfl, rfl⟩, fun g w v hv => Xw (xs := .ag [.nil] :: l) (xs' := .ag [.osl e k []] :: l) rfl (fun m x x' hx hx' u hu => ?_) hv⟩
 cases m with
 | zero =>
  have hx : D.ag [.nil] = x := by simpa using hx
  have hx' : D.ag [.osl e k []] = x' := by simpa using hx'
  subst hx hx'
  obtain ⟨us, rfl, hl, hc⟩ := hu
  refine ⟨us, rfl, by simpa using hl, fun i y z hy hz => ?_⟩
  match i, hy with
  | 0, hy =>
   have hy : D.osl e k [] = y := by simpa using hy
   subst hy
   exact Rep.nil_osl e k (hc 0 _ z rfl hz)
  | i + 1, hy => simp at hy
 | succ m =>
  have e : x = x' := by rw [List.getElem?_cons_succ] at hx hx'; rw [hx] at hx'; exact Option.some.inj hx'
  rw [<- e]; exact hu
section
variable {T N : List (List D)}
theorem c_toldF (s : IS) (d : D) (hd : d = .nil \/ ∃ rows, d = .sl 3 rows) (h : s.code ≠ 0) : FCon Tryz.prog 50 [.opt (fR T N s), d] (fun r o => r = .tup [.ag [.osl 143 3 []], .s (.int .i64 s.code), .s (.int .i64 s.at_)] /\ o = [.opt (fR T N s), .un]) := by
 refine FCon.tupO1 ?_
 have e : (s.code != 0) = true := by simpa using h
 rw [xr]
 rcases hd with rfl | ⟨rows, rfl⟩
 all_goals
  refine FI PM Tryz.func50 Tryz.ntmps50 [(2, 11, [9], [(9, 1), (9, 2), (9, 3), (9, 4), (9, 5), (9, 6), (9, 7), (9, 8)], (lin [9] [0, 1, 2, 3, 4, 5, 6, 7, 8, 9, 10]))] rfl rfl ?_
  (have hWf := w1 @e; repeat' (first | refine zS ?_ | refine zI ?_ ?_ | exact zF0 | refine zD fun hb => ?_ | exact zC | refine zT ?_ | fail))
  all_goals trace_state
theorem c_told (s : IS) (t : List TyI) (h : s.code = 0) (hs : OkS s) (ht : TyG s.nx t) (lt : t.length <= 10000000) : FCon Tryz.prog 50 [.opt (fR T N s), .sl 3 (t.map TyI.enc)] (fun r o => r = .tup [.ag [.osl 143 3 ((yK s t).1.map TyI.own)], .s (.int .i64 (yK s t).2), .s (.int .i64 0)] /\ o = [.opt (fR T N s), .un]) := by
 have e : (s.code != 0) = false := by simp [h]
 have G := hs h
 have bx := zn (l := s.l) (B := 200) (by omega) G.g.len t
 have px := uV t s.l (by omega) (by omega)
 have gx := wR (putX s.l t)
 have hp := (G.g.put ht.wf).pos
 unfold yK
 rw [if_neg (by omega)]
 by_cases h1 : 200 < (putX s.l t).length
 ·rw [if_pos h1]
  have f1 : decide (((putX s.l t).length : Int) > 200) = true := by rw [gx]; exact decide_eq_true h1
  refine FCon.tupO1 ?_
  rw [xr]
  refine FI PM Tryz.func50 Tryz.ntmps50 [(2, 11, [9], [(9, 1), (9, 2), (9, 3), (9, 4), (9, 5), (9, 6), (9, 7), (9, 8)], (lin [9] [0, 1, 2, 3, 4, 5, 6, 7, 8, 9, 10]))] rfl rfl ?_
  (have hWf := w2 @e @f1; repeat' (first | refine zS ?_ | refine zI ?_ ?_ | refine zK px ?_ | exact zF0 | refine zD fun hb => ?_ | exact zC | refine zT ?_ | fail))
  all_goals trace_state
 ·rw [if_neg h1]
  have f1 : decide (((putX s.l t).length : Int) > 200) = false := by rw [gx]; exact decide_eq_false h1
  have cc := c_canon (putX s.l t) hp (by omega)
  rw [xr]
  refine FI PM Tryz.func50 Tryz.ntmps50 [(2, 11, [9], [(9, 1), (9, 2), (9, 3), (9, 4), (9, 5), (9, 6), (9, 7), (9, 8)], (lin [9] [0, 1, 2, 3, 4, 5, 6, 7, 8, 9, 10]))] rfl rfl ?_
  (have hWf := w2 @e @f1; repeat' (first | refine zS ?_ | refine zI ?_ ?_ | refine zK px ?_ | refine zK cc ?_ | exact zF0 | refine zD fun hb => ?_ | exact zC | refine zT ?_ | fail))
  all_goals trace_state
end
def firD : Option (List TyI) -> D
 | none => .nil
 | some t => .sl 3 (t.map TyI.enc)
theorem firD_none : firD none = .nil := rfl
theorem uJ (t : List TyI) : firD (some t) = .sl 3 (t.map TyI.enc) := rfl
theorem Us (q : MPat) (ho : q.ok) (hs : q.sm) : FCon Tryz.prog 45 [.ag q.enc] (fun r _ => r = .s (.bool (!patM q.nodes))) := by
 have h := Zn q.nodes ho hs
 rw [MPat.enc_eq]
 refine FI PM Tryz.func45 Tryz.ntmps45 [] rfl rfl ?_
 (have hWf := f0; repeat' (first | refine zS ?_ | refine zI ?_ ?_ | refine zK h ?_ | exact zF0 | refine zD fun hb => ?_ | exact zC | refine zT ?_ | fail))
theorem WN (p : MProgram) (l : List MPat) (ho : p.ok) (hs : p.sm) (hol : ∀ q ∈ l, q.ok) (hsl : smS MPat.sm l) (hck : FCon Tryz.prog 43 [.ag p.enc] (fun r _ => ∃ z i : Int, r = .tup [.s (.int .i64 z), .s (.int .i64 i)] /\ (z = 0 ↔ x4 p = true /\ AllI p.types))) (h : ¬ Yg p l) : FCon Tryz.prog 13 [.ag p.enc, .sl 1 (l.map MPat.enc)] (fun r _ => r = .tup [.ag [.osl 143 3 []], .s (.int .i64 1)]) := by
 have hl := hsl.1
 have hcf := zQ l 45 [] rfl (fun q => !patM q.nodes) (fun q hq => Us q (hol q hq) (hsl.2 q hq))
 refine FCon.mono (Rs := fun r o => r = .tup [.ag [.osl 143 3 []], .s (.int .i64 1)] /\ o = []) (FCon.tupO1 (FCon.noout ?_)) fun r o q => q.1
 rw [MProgram.enc_eq] at hck ⊢
 refine FI PM Tryz.func13 Tryz.ntmps13 [] rfl rfl ?_
 iterate 2 (refine xj ?_; simp only [go_sem, simprocAttr]; (have hWf := f0; repeat' (first | refine zY ?_ | refine zI ?_ ?_ | ((with_reducible apply xc); refine xg (hck) ?_; rintro _ _ ⟨z, i, rfl, hz⟩) | refine zU hck ?_ | exact zF1 | refine zD fun hb => ?_ | exact zC | refine zT ?_ | fail)))
 have hll : (l.map MPat.enc).length = l.length := List.length_map _
 by_cases hz0 : z = 0
 ·obtain ⟨hp, hA⟩ := hz.1 hz0
  subst hz0
  cases he : l.isEmpty with
  | true =>
   obtain rfl := List.isEmpty_iff.1 he
   (have hWf := f0; repeat' (first | refine zS ?_ | refine zI ?_ ?_ | exact zF0 | refine zD fun hb => ?_ | exact zC | refine zT ?_ | fail))
   all_goals trace_state
  | false =>
   have hne : l ≠ [] := fun e => by rw [e] at he; cases he
   have e1 : ((l.length : Int) == 0) = false := by
    have := List.length_pos_iff.2 hne
    rw [beq_eq_false_iff_ne]; omega
   have hany : l.any (fun q => !patM q.nodes) = true := by
    cases hh : l.any (fun q => !patM q.nodes) with
    | true => rfl
    | false =>
     refine absurd ⟨hp, hA, hne, fun q hq => ?_⟩ h
     have := List.any_eq_false.1 hh q hq
     simpa using this
   rw [hany] at hcf
   (have hWf := w1 @e1; repeat' (first | refine zS ?_ | refine zI ?_ ?_ | refine zK hcf ?_ | exact zF0 | refine zD fun hb => ?_ | exact zC | refine zT ?_ | fail))
   all_goals trace_state
 ·have e0 : (z != 0) = true := by simpa using hz0
  (have hWf := w1 @e0; repeat' (first | refine zS ?_ | refine zI ?_ ?_ | exact zF0 | refine zD fun hb => ?_ | exact zC | refine zT ?_ | fail))
  all_goals trace_state
theorem Vq (p : MProgram) (l : List MPat) (ho : p.ok) (hs : p.sm) (hol : ∀ q ∈ l, q.ok) (hsl : smS MPat.sm l) (hsz : cnts (fun q : MPat => q.nodes.length) l <= 1048576) (hck : FCon Tryz.prog 43 [.ag p.enc] (fun r _ => ∃ z i : Int, r = .tup [.s (.int .i64 z), .s (.int .i64 i)] /\ (z = 0 ↔ x4 p = true /\ AllI p.types))) (h : Yg p l) : FCon Tryz.prog 13 [.ag p.enc, .sl 1 (l.map MPat.enc)] (fun r _ => r = .tup [.ag [.osl 143 3 ((wW p l).1.map TyI.own)], .s (.int .i64 (wW p l).2)]) := by
 have hl := hsl.1
 have hcf := zQ l 45 [] rfl (fun q => !patM q.nodes) (fun q hq => Us q (hol q hq) (hsl.2 q hq))
 have hany : l.any (fun q => !patM q.nodes) = false := List.any_eq_false.2 fun q hq => by rw [h.pats q hq]; simp
 rw [hany] at hcf
 have T := YK h.prog
 have hpos := List.length_pos_iff.2 h.ne
 have e1 : ((l.length : Int) == 0) = false := by rw [beq_eq_false_iff_ne]; omega
 have hts := Z8 h.pats
 have hok := Z7 h.pats
 rw [MProgram.enc_eq] at hck ⊢
 refine FI PM Tryz.func13 Tryz.ntmps13 [] rfl rfl ?_
 iterate 2 (refine xj ?_; simp only [go_sem, simprocAttr]; (have hWf := f0; repeat' (first | refine zY ?_ | refine zI ?_ ?_ | ((with_reducible apply xc); refine xg (hck) ?_; rintro _ _ ⟨z, i, rfl, hz⟩) | refine zU hck ?_ | exact zF1 | refine zD fun hb => ?_ | exact zC | refine zT ?_ | fail)))
 obtain rfl : z = 0 := hz.2 ⟨h.prog, h.chk⟩
 (have hWf := w1 @e1; repeat' (first | refine zS ?_ | refine zI ?_ ?_ | refine zK hcf ?_ | exact zF0 | refine zD fun hb => ?_ | exact zC | refine zT ?_ | fail))
 refine uE (Yb 36 2 3000036 (row := [.sl 3 (p.types.map MType.enc), .sl 6 (p.nodes.map MNode.enc), .nil, .s (.int .i64 0), .s (.int .i64 0), .s (.int .i64 0)]) 160 2 (by simp only [go_sem, simprocAttr]) rfl (by decide) rfl (xj ?_))
 simp only [go_sem, simprocAttr]
 refine xd (fun n σ => ∃ (k : Nat) (f : Option (List TyI)) (s : IS), k <= l.length /\ n = l.length - k /\ (f = none ↔ k = 0) /\ OkS s /\ s.code = 0 /\ s.nx + 2 * sizeL ((l.drop k).map xz) <= 3000000 /\ (∀ t, f = some t -> TyG s.nx t /\ t.length <= 1800) /\ xV p.types ((l.drop k).map xz) f s = xV p.types (l.map xz) none is0 /\ σ.t 1 = .sl 1 (l.map MPat.enc) /\ σ.t 4 = .bx 4 0 /\ σ.b 4 = some (.box [.nil]) /\ σ.t 8 = .bx 36 0 /\ σ.b 36 = some (.box [.sl 3 (p.types.map MType.enc), .sl 6 (p.nodes.map MNode.enc), .bs 3000036 2 s.l.length, .s (.int .i64 s.nx), .s (.int .i64 s.code), .s (.int .i64 s.at_)]) /\ σ.b 3000036 = some (.arr 160 2 (s.l.map SubM.enc)) /\ σ.t 9 = firD f /\ σ.t 37 = .sl 1 (l.map MPat.enc) /\ σ.t 38 = .s (.int .i64 l.length) /\ σ.t 39 = .s (.int .i64 k)) l.length ⟨0, none, is0, by omega, by omega, by simp, vz, rfl, (by show 0 + 2 * _ <= _; rw [List.drop_zero]; omega), nofun, by rw [List.drop_zero], ?_⟩ ?_
 ·simp only [go_sem, simprocAttr, Int.natCast_zero]
  exact ⟨rfl, rfl, rfl⟩
 ·rintro n σ ⟨k, f, s, hk, rfl, hfk, hs0, hc0, hnx, hft, hrun, h1, h4, b4, h8, b36, b30, h9, h37, h38, h39⟩ K' hK
  have hfin : ∀ Q, xV p.types ((l.drop k).map xz) f s = Q -> wW p l = yK Q.2 Q.1 := fun Q e => by unfold wW; rw [<- hrun, e]
  by_cases hlt : k < l.length
  ·have hmem := List.getElem_mem hlt
   have hq := h.pats _ hmem
   have hx := xb MPat.enc l k hlt
   have he := MPat.enc_eq l[k]
   have hT := vI hq
   have hqs := (Qs hq).2
   have hdr : (l.drop k).map xz = xz l[k] :: (l.drop (k + 1)).map xz := by rw [List.drop_eq_getElem_cons hlt, List.map_cons]
   rw [hdr, sizeL_cons] at hnx
   rw [hdr] at hrun hfin
   have cg := c_growPat l[k].nodes (by omega) (xz l[k]) 0 hT.at0
   have cp := c_pat (N := p.nodes.map MNode.enc) T 0 (xz l[k]) hT.ok [] s hs0 (by omega)
   have G := patG T 0 (xz l[k]) hT.ok [] s
   have Gup := G.up
   have Gok := G.st hs0 (by omega)
   have Gty := fun hz => G.ty hs0 (by omega) hz
   have Gle := G.le
   have Glen := G.len
   have hsz6 := hT.sz
   clear hq hT
   generalize l[k] = q at *
   generalize hP : patI p.types 0 (xz q) [] s = P at *
   obtain ⟨ty, e1, s1⟩ := P
   dsimp only at cp Gup Gok Gty Gle Glen
   obtain ⟨xa, xl, hxt⟩ : ∃ xa xl, xz q = .mk xa xl := ⟨_, _, Arb.eta _⟩
   rw [hxt, zd] at cg cp
   have cp : FCon Tryz.prog 47 [.opt (fR (p.types.map MType.enc) (p.nodes.map MNode.enc) s), .pt [.s (.int .i64 xa.kind), .s (.int .i64 xa.n), .s (.string xa.s), .sl 1 (xl.map pxS)], .np, .s (.int .i64 0)] (fun r o => r = .tup [.sl 3 (ty.map TyI.enc), zx e1] /\ o = [.opt (fR (p.types.map MType.enc) (p.nodes.map MNode.enc) s1), .un, .un, .un]) := cp
   by_cases hz : s1.code = 0
   ·have e0 : (s1.code != 0) = false := by simp [hz]
    cases f with
    | none =>
     obtain rfl : k = 0 := hfk.1 rfl
     rw [Nat.zero_add] at hnx hrun
     have hstep := Wx (r := (l.drop 1).map xz) hP
     rw [if_neg (by omega)] at hstep
     simp only [xr] at cp
     rcases xH e1 with qe | ⟨row, qe, -⟩
     all_goals
      rw [qe] at cp
      (have hWf := w10 @h1 @h4 @b4 @h8 @b36 @b30 @h9 @h37 @h38 (ai @h39 <| ai @hx <| ai @he <| ai @e0 <| @firD_none); repeat' (first | refine zS ?_ | refine zI ?_ ?_ | refine zK cg ?_ | refine zH cp ?_ | exact zF0 | refine zD fun hb => ?_ | exact zC | refine zT ?_ | fail))
      refine hK (l.length - 1) _ (by omega) ⟨1, some ty, s1, by omega, rfl, by simp, Gok, hz, by omega, fun t e => by injection e with e; subst e; exact ⟨Gty hz, by omega⟩, by rw [<- hrun, hstep], ?_⟩
      simp only [go_sem, simprocAttr, h1, h4, b4, h8, b36, b30, h9, h37, h38, h39, uJ]
      all_goals trace_state
    | some t0 =>
     obtain ⟨t0G, t0l⟩ := hft t0 rfl
     have hk0 : k ≠ 0 := fun e => by have := hfk.2 e; cases this
     have ek : ((k : Int) == 0) = false := by rw [beq_eq_false_iff_ne]; omega
     have hstep := Wy (r := (l.drop (k + 1)).map xz) (t0 := t0) hP
     rw [if_neg (by omega)] at hstep
     have cs := c_same (T := p.types.map MType.enc) (N := p.nodes.map MNode.enc) s1 t0 ty 0 Gok (by omega) (fun _ => t0G.mono Gle) Gty (by omega) (by omega)
     have hnx2 := vF s1 t0 ty 0
     have ok2 := (X5 0 Gok (by omega) (fun _ => t0G.mono Gle) Gty).ok Gok (by omega)
     generalize xy s1 t0 ty 0 = s2 at *
     by_cases hz2 : s2.code = 0
     ·rw [if_neg (by omega)] at hstep
      rw [decide_eq_true hz2] at cs
      simp only [xr] at cp cs
      rcases xH e1 with qe | ⟨row, qe, -⟩
      all_goals
       rw [qe] at cp
       (have hWf := w10 @h1 @h4 @b4 @h8 @b36 @b30 @h9 @h37 @h38 (ai @h39 <| ai @hx <| ai @he <| ai @e0 <| ai @ek <| @uJ); repeat' (first | refine zS ?_ | refine zI ?_ ?_ | refine zK cg ?_ | refine zH cp ?_ | refine zH cs ?_ | exact zF0 | refine zD fun hb => ?_ | exact zC | refine zT ?_ | fail))
       refine hK (l.length - (k + 1)) _ (by omega) ⟨k + 1, some t0, s2, by omega, rfl, by simp, ok2, hz2, by omega, fun t e => by injection e with e; subst e; exact ⟨by rw [hnx2]; exact t0G.mono Gle, t0l⟩, by rw [<- hrun, hstep], ?_⟩
       simp only [go_sem, simprocAttr, h1, h4, b4, h8, b36, b30, h9, h37, h38, h39, uJ, Int.natCast_succ]
       all_goals trace_state
     ·rw [if_pos hz2] at hstep
      rw [decide_eq_false hz2] at cs
      have hR := hfin _ hstep
      have hR : wW p l = ([], s2.code) := by rw [hR]; unfold yK; rw [if_pos hz2]
      rw [hR]
      have ct := c_toldF (T := p.types.map MType.enc) (N := p.nodes.map MNode.enc) s2 (.sl 3 (t0.map TyI.enc)) (.inr ⟨_, rfl⟩) hz2
      simp only [xr] at cp cs ct
      rcases xH e1 with qe | ⟨row, qe, -⟩
      all_goals
       rw [qe] at cp
       (have hWf := w10 @h1 @h4 @b4 @h8 @b36 @b30 @h9 @h37 @h38 (ai @h39 <| ai @hx <| ai @he <| ai @e0 <| ai @ek <| @uJ); repeat' (first | refine zS ?_ | refine zI ?_ ?_ | refine zK cg ?_ | refine zH cp ?_ | refine zH cs ?_ | refine zH ct ?_ | exact zF0 | refine zD fun hb => ?_ | exact zC | refine zT ?_ | fail))
       all_goals trace_state
   ·have e0 : (s1.code != 0) = true := by simpa using hz
    have hR : wW p l = ([], s1.code) := by
     cases f with
     | none =>
      have hstep := Wx (r := (l.drop (k + 1)).map xz) hP
      rw [if_pos hz] at hstep
      rw [hfin _ hstep]; unfold yK; rw [if_pos hz]
     | some t0 =>
      have hstep := Wy (r := (l.drop (k + 1)).map xz) (t0 := t0) hP
      rw [if_pos hz] at hstep
      rw [hfin _ hstep]; unfold yK; rw [if_pos hz]
    rw [hR]
    have hfd : firD f = .nil \/ ∃ rows, firD f = .sl 3 rows := by cases f with
     | none => exact .inl rfl
     | some t0 => exact .inr ⟨_, rfl⟩
    rcases hfd with qf | ⟨rows, qf⟩
    all_goals
     have ct := c_toldF (T := p.types.map MType.enc) (N := p.nodes.map MNode.enc) s1 (firD f) (by cases f with
      | none => exact .inl rfl
      | some t0 => exact .inr ⟨_, rfl⟩) hz
     rw [qf] at h9 ct
     simp only [xr] at cp ct
     rcases xH e1 with qe | ⟨row, qe, -⟩
     all_goals
      rw [qe] at cp
      (have hWf := w10 @h1 @h4 @b4 @h8 @b36 @b30 @h9 @h37 @h38 (ai @h39 <| ai @hx <| ai @he <| @e0); repeat' (first | refine zS ?_ | refine zI ?_ ?_ | refine zK cg ?_ | refine zH cp ?_ | refine zH ct ?_ | exact zF0 | refine zD fun hb => ?_ | exact zC | refine zT ?_ | fail))
      all_goals trace_state
  ·obtain rfl : k = l.length := by omega
   rw [List.drop_length, List.map_nil] at hfin
   cases f with
   | none => have := hfk.1 rfl; omega
   | some t0 =>
    obtain ⟨t0G, t0l⟩ := hft t0 rfl
    have hR := hfin (t0, s) rfl
    rw [hR]
    have ct := c_told (T := p.types.map MType.enc) (N := p.nodes.map MNode.enc) s t0 hc0 hs0 t0G (by omega)
    simp only [xr] at ct
    (have hWf := w10 @h1 @h4 @b4 @h8 @b36 @b30 @h9 @h37 @h38 (ai @h39 <| @uJ); repeat' (first | refine zS ?_ | refine zI ?_ ?_ | refine zH ct ?_ | exact zF0 | refine zD fun hb => ?_ | exact zC | refine zT ?_ | fail))
    all_goals trace_state
theorem VL (p : MProgram) (ho : p.ok) (hs : p.sm) (hp : x4 p = false) : FCon Tryz.prog 43 [.ag p.enc] (fun r _ => r = .tup [.s (.int .i64 1), .s (.int .i64 0)]) := by
 have hc := vR p ho hs
 rw [hp, MProgram.enc_eq] at hc
 rw [MProgram.enc_eq]
 refine FI PM Tryz.func43 Tryz.ntmps43 [] rfl rfl ?_
 iterate 1 (refine xj ?_; simp only [go_sem, simprocAttr]; (have hWf := f0; repeat' (first | refine zY ?_ | refine zI ?_ ?_ | exact zF1 | refine zD fun hb => ?_ | exact zC | refine zT ?_ | fail)))
 refine yS 1 (.box [.sl 3 (p.types.map MType.enc), .sl 6 (p.nodes.map MNode.enc)]) (by simp only [go_sem, simprocAttr]) rfl ?_
 (have hWf := f0; repeat' (first | refine zS ?_ | refine zI ?_ ?_ | refine zK hc ?_ | exact zF0 | refine zD fun hb => ?_ | exact zC | refine zT ?_ | fail))
theorem Yo (p : MProgram) (ho : p.ok) (hs : p.sm) : FCon Tryz.prog 43 [.ag p.enc] (fun r _ => ∃ z i : Int, r = .tup [.s (.int .i64 z), .s (.int .i64 i)] /\ (z = 0 ↔ x4 p = true /\ AllI p.types)) := by
 cases hp : x4 p with
 | true => exact (QP p ho hs hp).mono fun r o ⟨z, i, h1, h2⟩ => ⟨z, i, h1, by rw [h2]; simp⟩
 | false => exact (VL p ho hs hp).mono fun r o h => ⟨1, 0, h, by simp⟩
end
section
open Go.RowKit
def z4 (name : ByteArray) (l : List MTy) : List TyI := ⟨0, name, l.length⟩ :: l.flatMap MTy.items
def accA (name : ByteArray) (l : List MTy) (k : Nat) : List TyI := ⟨0, name, l.length⟩ :: (l.take k).flatMap MTy.items
theorem accA_zero (name : ByteArray) (l : List MTy) : accA name l 0 = [⟨0, name, l.length⟩] := rfl
theorem Un (name : ByteArray) (l : List MTy) {k : Nat} (h : k < l.length) : accA name l (k + 1) = accA name l k ++ l[k].items := by
 unfold accA
 rw [List.take_succ_eq_append_getElem h, List.flatMap_append]; simp
theorem accA_le (name : ByteArray) (l : List MTy) (hi : ∀ t ∈ l, t.items.length <= 100000) : ∀ k, k <= l.length -> (accA name l k).length <= 1 + 100000 * k
 | 0, _ => by simp [accA]
 | k + 1, h => by
  have := accA_le name l hi k (by omega)
  have h2 := hi _ (List.getElem_mem (show k < l.length from h))
  rw [Un name l h, List.length_append]; omega
theorem XC (name : ByteArray) (l : List MTy) (hl : l.length <= 2) (hi : ∀ t ∈ l, t.items.length <= 100000) : FCon Tryz.prog 78 [.s (.string name), .sl 1 (l.map MTy.enc)] (fun r _ => r = .ag [.osl 143 3 ((z4 name l).map TyI.own)]) := by
 have hall : accA name l l.length = z4 name l := by unfold accA z4; rw [List.take_length]
 refine FI PM Tryz.func78 Tryz.ntmps78 [(5, 7, [], [], (lin [] [0, 1, 2, 3, 4, 5, 6]))] rfl rfl ?_
 (have hWf := f0; repeat' (first | refine zS ?_ | refine zI ?_ ?_ | exact zF0 | refine zD fun hb => ?_ | exact zC | refine zT ?_ | fail))
 refine xd (fun n σ => ∃ k na : Nat, na = (accA name l k).length /\ k <= l.length /\ n = l.length - k /\ σ.t 1 = .sl 1 (l.map MTy.enc) /\ σ.t 4 = .bx 4 0 /\ σ.b 4 = some (.box [.nil]) /\ σ.t 5 = .bx 5 0 /\ σ.b 5 = some (.box [.bs 11 3 na]) /\ σ.b 11 = some (.arr 143 3 ((accA name l k).map TyI.own)) /\ σ.t 14 = .s (.int .i64 l.length) /\ σ.t 15 = .s (.int .i64 k)) l.length ⟨0, 1, rfl, by omega, by omega, ?_⟩ ?_
 ·simp only [go_sem, simprocAttr, Int.natCast_zero, accA_zero, TyI.own_eq]
 ·rintro n σ ⟨k, na, hna, hk, rfl, h1, h4, hb4, h5, hb5, hb11, h14, h15⟩ K' hK
  by_cases hlt : k < l.length
  ·have hx := xb MTy.enc l k hlt
   have he := MTy.enc_eq l[k]
   have e3 := Un name l hlt
   have hle := accA_le name l hi (k + 1) hlt
   rw [e3, List.length_append, <- hna] at hle
   have hk3 : 1 + 100000 * (k + 1) <= 1000000 := by omega
   have hle := Nat.le_trans hle hk3
   have hlen : ((accA name l k).map TyI.own).length = na := by rw [List.length_map, hna]
   obtain ⟨its, hits⟩ : ∃ its, l[k].items = its := ⟨_, rfl⟩
   rw [hits] at he e3 hle
   clear hits
   have hnew : na + its.length = (accA name l (k + 1)).length := by rw [e3, List.length_append, <- hna]
   have e3 := congrArg (List.map TyI.own) e3
   rw [List.map_append] at e3
   obtain ⟨ak, hak⟩ : ∃ ak, (accA name l k).map TyI.own = ak := ⟨_, rfl⟩
   rw [hak] at hlen e3 hb11
   have e3 := Lib.hid e3
   have hnew := Lib.hid hnew
   clear hak hna hk3
   (have hWf := w10 @h1 @h4 @hb4 @h5 @hb5 @hb11 @h14 @h15 @hx (ai @he <| @hlen); repeat' (first | refine zS ?_ | refine zI ?_ ?_ | exact zF0 | refine zD fun hb => ?_ | exact zC | refine zT ?_ | fail))
   refine hK (l.length - (k + 1)) _ (by omega) ⟨k + 1, na + its.length, hnew.out, by omega, rfl, ?_⟩
   simp only [go_sem, simprocAttr, h1, h4, hb4, h5, hb5, hb11, h14, h15, Int.natCast_succ, e3.out]
  ·obtain rfl : k = l.length := by omega
   rw [hall] at hb11 hna
   (have hWf := w9 @h1 @h4 @hb4 @h5 @hb5 @hb11 @h14 @h15 @hna; repeat' (first | refine zS ?_ | refine zI ?_ ?_ | exact zF0 | refine zD fun hb => ?_ | exact zC | refine zT ?_ | fail))
theorem QQ (name : ByteArray) : FCon Tryz.prog 78 [.s (.string name), .nil] (fun r _ => r = .ag [.osl 143 3 ([(⟨0, name, 0⟩ : TyI)].map TyI.own)]) := by
 refine FI PM Tryz.func78 Tryz.ntmps78 [(5, 7, [], [], (lin [] [0, 1, 2, 3, 4, 5, 6]))] rfl rfl ?_
 (have hWf := f0; repeat' (first | refine zS ?_ | refine zI ?_ ?_ | exact zF0 | refine zD fun hb => ?_ | exact zC | refine zT ?_ | fail))
 refine xd (fun n σ => n = 0 /\ σ.t 4 = .bx 4 0 /\ σ.b 4 = some (.box [.nil]) /\ σ.t 5 = .bx 5 0 /\ σ.b 5 = some (.box [.bs 11 3 1]) /\ σ.b 11 = some (.arr 143 3 ([(⟨0, name, 0⟩ : TyI)].map TyI.own)) /\ σ.t 14 = .s (.int .i64 0) /\ σ.t 15 = .s (.int .i64 0)) 0 ⟨rfl, ?_⟩ ?_
 ·simp only [go_sem, simprocAttr, TyI.own_eq]
 ·rintro n σ ⟨rfl, h4, hb4, h5, hb5, hb11, h14, h15⟩ K' hK
  (have hWf := w7 @h4 @hb4 @h5 @hb5 @hb11 @h14 @h15; repeat' (first | refine zS ?_ | refine zI ?_ ?_ | exact zF0 | refine zD fun hb => ?_ | exact zC | refine zT ?_ | fail))
end
section
open Go.RowKit Arb
def sR (T N : List (List D)) (s : IS) : List D := [.sl 3 T, .sl 6 N, .sl 2 (s.l.map SubM.enc), .s (.int .i64 s.nx), .s (.int .i64 s.code), .s (.int .i64 s.at_)]
theorem xB (T N : List (List D)) (s : IS) : sR T N s = [.sl 3 T, .sl 6 N, .sl 2 (s.l.map SubM.enc), .s (.int .i64 s.nx), .s (.int .i64 s.code), .s (.int .i64 s.at_)] := rfl
section
variable {T N : List (List D)}
theorem XD (s : IS) (h : s.nx <= 4000000) : FCon Tryz.prog 76 [.opt (sR T N s)] (fun r o => r = .ag [.sl 3 [(fvI s.nx).enc]] /\ o = [.opt (sR T N (incM s 1))]) := by
 refine FCon.iceO ?_
 rw [xB, xB]
 refine FI PM Tryz.func76 Tryz.ntmps76 [] rfl rfl ?_
 (have hWf := f0; repeat' (first | refine zS ?_ | refine zI ?_ ?_ | exact zF0 | refine zD fun hb => ?_ | exact zC | refine zT ?_ | fail))
 ·rw [Int.add_sub_cancel]; rfl
 ·rfl
theorem uT (s : IS) (c a : Int) : FCon Tryz.prog 82 [.opt (sR T N s), .s (.int .i64 c), .s (.int .i64 a)] (fun r o => r = .tup [] /\ o = [.opt (sR T N (yx s c a)), .un, .un]) := by
 unfold yx
 by_cases h : s.code = 0
 ·have e : (s.code == 0) = true := by simp [h]
  rw [if_pos h, xB, xB]
  refine FI PM Tryz.func82 Tryz.ntmps82 [] rfl rfl ?_
  (have hWf := w1 @e; repeat' (first | refine zS ?_ | refine zI ?_ ?_ | exact zF0 | refine zD fun hb => ?_ | exact zC | refine zT ?_ | fail))
 ·have e : (s.code == 0) = false := by simpa using h
  rw [if_neg h, xB]
  refine FI PM Tryz.func82 Tryz.ntmps82 [] rfl rfl ?_
  (have hWf := w1 @e; repeat' (first | refine zS ?_ | refine zI ?_ ?_ | exact zF0 | refine zD fun hb => ?_ | exact zC | refine zT ?_ | fail))
def bigM (s : IS) (t : List TyI) (a : Int) : IS := if s.code = 0 /\ 200 < (putX s.l t).length then ⟨s.l, s.nx, 26, a⟩ else s
theorem VO (s : IS) (t : List TyI) (a : Int) (hs : OkS s) (hn : s.code = 0 -> s.nx <= 3000000) (lt : t.length <= 10000000) : FCon Tryz.prog 80 [.opt (sR T N s), .ag [.sl 3 (t.map TyI.enc)], .s (.int .i64 a)] (fun r o => r = .tup [] /\ o = [.opt (sR T N (bigM s t a)), .un, .un]) := by
 unfold bigM
 by_cases q : s.code = 0
 ·have e : (s.code == 0) = true := by simp [q]
  have G := hs q
  have hn := hn q
  have bx := zn (l := s.l) (B := 200) (by omega) G.g.len t
  have px := zJ t s.l (by omega) (by have := G.len; omega) G.g.dif (by omega)
  have gx := wR (putX s.l t)
  by_cases h1 : 200 < (putX s.l t).length
  ·have f1 : decide (((putX s.l t).length : Int) > 200) = true := by rw [gx]; exact decide_eq_true h1
   have cf := uT (T := T) (N := N) s 26 a
   unfold yx at cf
   rw [if_pos q] at cf
   rw [if_pos ⟨q, h1⟩]
   rw [xB] at cf ⊢
   rw [xB] at cf ⊢
   refine FI PM Tryz.func80 Tryz.ntmps80 [(1, 11, [], [], (lin [] [0, 1, 2, 3, 4, 5, 6, 7, 8, 9, 10]))] rfl rfl ?_
   (have hWf := w2 @e @f1; repeat' (first | refine zS ?_ | refine zI ?_ ?_ | refine zK px ?_ | refine zH cf ?_ | exact zF0 | refine zD fun hb => ?_ | exact zC | refine zT ?_ | fail))
  ·have f1 : decide (((putX s.l t).length : Int) > 200) = false := by rw [gx]; exact decide_eq_false h1
   rw [if_neg (fun h => h1 h.2), xB]
   refine FI PM Tryz.func80 Tryz.ntmps80 [(1, 11, [], [], (lin [] [0, 1, 2, 3, 4, 5, 6, 7, 8, 9, 10]))] rfl rfl ?_
   (have hWf := w2 @e @f1; repeat' (first | refine zS ?_ | refine zI ?_ ?_ | refine zK px ?_ | exact zF0 | refine zD fun hb => ?_ | exact zC | refine zT ?_ | fail))
 ·have e : (s.code == 0) = false := by simpa using q
  rw [if_neg (fun h => q h.1), xB]
  refine FI PM Tryz.func80 Tryz.ntmps80 [(1, 11, [], [], (lin [] [0, 1, 2, 3, 4, 5, 6, 7, 8, 9, 10]))] rfl rfl ?_
  (have hWf := w1 @e; repeat' (first | refine zS ?_ | refine zI ?_ ?_ | exact zF0 | refine zD fun hb => ?_ | exact zC | refine zT ?_ | fail))
theorem bigM_ok {s : IS} {t : List TyI} {a : Int} (hs : OkS s) : OkS (bigM s t a) := by
 unfold bigM
 split
 ·exact fun h => absurd h (show ¬ ((26 : Int) = 0) by decide)
 ·exact hs
theorem bigM_nx (s : IS) (t : List TyI) (a : Int) : (bigM s t a).nx = s.nx := by unfold bigM; split <;> rfl
theorem bigM_z {s : IS} {t : List TyI} {a : Int} (h : (bigM s t a).code = 0) : s.code = 0 := by
 unfold bigM at h
 split at h
 ·exact absurd h (show ¬ ((26 : Int) = 0) by decide)
 ·exact h
theorem xaF (s : IS) (x y : List TyI) (a : Int) (h : (bigM (bigM s x a) y a).code ≠ 0) : bigM (bigM s x a) y a = yr s x y a := by
 by_cases q : s.code = 0
 ·by_cases h1 : 200 < (putX s.l x).length
  ·rw [YL q a (.inl h1)]
   have e : bigM s x a = ⟨s.l, s.nx, 26, a⟩ := if_pos ⟨q, h1⟩
   rw [e]; unfold bigM; rw [if_neg (fun h => absurd h.1 (show ¬ ((26 : Int) = 0) by decide))]
  ·have e : bigM s x a = s := if_neg (fun h => h1 h.2)
   rw [e] at h ⊢
   by_cases h2 : 200 < (putX s.l y).length
   ·rw [YL q a (.inr h2)]; exact if_pos ⟨q, h2⟩
   ·have e : bigM s y a = s := if_neg (fun h => h2 h.2)
    rw [e] at h; exact absurd q h
 ·have e : ∀ t, bigM s t a = s := fun t => if_neg (fun h => q h.1)
  rw [e, e, ub q]
theorem big2_zero {s : IS} {x y : List TyI} {a : Int} (h : (bigM (bigM s x a) y a).code = 0) : s.code = 0 /\ bigM (bigM s x a) y a = s /\ ¬ (200 < (putX s.l x).length \/ 200 < (putX s.l y).length) := by
 by_cases q : s.code = 0
 ·by_cases h1 : 200 < (putX s.l x).length
  ·have e : bigM s x a = ⟨s.l, s.nx, 26, a⟩ := if_pos ⟨q, h1⟩
   rw [e] at h; unfold bigM at h; rw [if_neg (fun h => absurd h.1 (show ¬ ((26 : Int) = 0) by decide))] at h; exact absurd h (show ¬ ((26 : Int) = 0) by decide)
  ·have e : bigM s x a = s := if_neg (fun h => h1 h.2)
   rw [e] at h ⊢
   by_cases h2 : 200 < (putX s.l y).length
   ·have e : bigM s y a = ⟨s.l, s.nx, 26, a⟩ := if_pos ⟨q, h2⟩
    rw [e] at h; exact absurd h (show ¬ ((26 : Int) = 0) by decide)
   ·have e : bigM s y a = s := if_neg (fun h => h2 h.2)
    exact ⟨q, e, by omega⟩
 ·have e : ∀ t, bigM s t a = s := fun t => if_neg (fun h => q h.1)
  rw [e, e] at h; exact absurd h q
theorem Zp (s : IS) (x y : List TyI) (a : Int) (hs : OkS s) (hn : s.code = 0 -> s.nx <= 3000000) (hx : s.code = 0 -> TyG s.nx x) (hy : s.code = 0 -> TyG s.nx y) (lx : x.length <= 10000000) (ly : y.length <= 10000000) :
  FCon Tryz.prog 37 [.opt (sR T N s), .ag [.sl 3 (x.map TyI.enc)], .ag [.sl 3 (y.map TyI.enc)], .s (.int .i64 a)] (fun r o => r = .tup [] /\ o = [.opt (sR T N (yr s x y a)), .un, .un, .un]) := by
 have b1 := VO (T := T) (N := N) s x a hs hn lx
 have b2 := VO (T := T) (N := N) (bigM s x a) y a (bigM_ok hs) (fun hc => by rw [bigM_nx]; exact hn (bigM_z hc)) ly
 by_cases hc : (bigM (bigM s x a) y a).code = 0
 ·obtain ⟨q, e1, hb⟩ := big2_zero hc
  have eb : bigM s x a = s := if_neg (fun h => hb (.inl h.2))
  rw [e1] at b2
  rw [eb] at b1 b2
  obtain ⟨n, u1, u2, u3, u4⟩ := Xb (hs q) (hn q) (hx q) (hy q) (by omega) (by omega)
  have cu := Wj n s.l x y _ u1 u2
  have e0 : (s.code != 0) = false := by simp [q]
  by_cases hz : (uniR s.l x y).2 = 0
  ·rw [sameS_0 q a hb hz]
   rw [Yh hz] at cu
   rw [xB] at b1 b2
   rw [xB, xB]
   refine FI PM Tryz.func37 Tryz.ntmps37 [(4, 11, [6], [], (lin [6] [0, 1, 2, 3, 4, 5, 6, 7, 8, 9, 10]))] rfl rfl ?_
   (have hWf := w1 @e0; repeat' (first | refine zS ?_ | refine zI ?_ ?_ | refine zH b1 ?_ | refine zH b2 ?_ | refine zX (FCon.noout cu) ?_ | ((with_reducible apply xc); refine zG (cu) ?_) | exact zF0 | refine zD fun hb => ?_ | exact zC | refine zT ?_ | fail))
  ·rw [sameS_n q a hb hz]
   rw [wN hz] at cu
   have f3 : ((uniR s.l x y).2 != 0) = true := by simp [hz]
   have hi := uniR_hi s.l x y
   have cf := uT (T := T) (N := N) s (22 + (uniR s.l x y).2) a
   unfold yx at cf
   rw [if_pos q] at cf
   have ec : (uniR s.l x y).2 + 22 = 22 + (uniR s.l x y).2 := Int.add_comm _ _
   rw [ec]
   rw [xB] at b1 b2 cf
   rw [xB] at cf
   rw [xB, xB]
   refine FI PM Tryz.func37 Tryz.ntmps37 [(4, 11, [6], [], (lin [6] [0, 1, 2, 3, 4, 5, 6, 7, 8, 9, 10]))] rfl rfl ?_
   (have hWf := w2 @e0 @f3; repeat' (first | refine zS ?_ | refine zI ?_ ?_ | refine zH b1 ?_ | refine zH b2 ?_ | refine zX (FCon.noout cu) ?_ | ((with_reducible apply xc); refine zG (cu) ?_) | refine zH cf ?_ | exact zF0 | refine zD fun hb => ?_ | exact zC | refine zT ?_ | fail))
 ·have e := xaF s x y a hc
  rw [<- e]
  have e0 : ((bigM (bigM s x a) y a).code != 0) = true := by simpa using hc
  generalize bigM (bigM s x a) y a = s2 at *
  generalize bigM s x a = s1 at *
  rw [xB] at b1 b2
  rw [xB] at b1 b2
  rw [xB, xB]
  refine FI PM Tryz.func37 Tryz.ntmps37 [(4, 11, [6], [], (lin [6] [0, 1, 2, 3, 4, 5, 6, 7, 8, 9, 10]))] rfl rfl ?_
  (have hWf := w1 @e0; repeat' (first | refine zS ?_ | refine zI ?_ ?_ | refine zH b1 ?_ | refine zH b2 ?_ | exact zF0 | refine zD fun hb => ?_ | exact zC | refine zT ?_ | fail))
end
def subA (k : Nat) (A : Nat -> List TyI) : List SubM := (List.range k).map fun v => ⟨(v : Nat), A v⟩
theorem QG (k : Nat) (A : Nat -> List TyI) : (subA k A).Pairwise (fun a b => a.v ≠ b.v) := by
 unfold subA
 rw [List.pairwise_map]
 exact List.pairwise_lt_range.imp fun h => by show ((_ : Nat) : Int) ≠ ((_ : Nat) : Int); omega
theorem lk_subA {k : Nat} (A : Nat -> List TyI) {v : Nat} (h : v < k) : lk (subA k A) (v : Nat) = some (A v) :=
 lk_of (QG k A) (s := ⟨(v : Nat), A v⟩) (by unfold subA; exact List.mem_map.2 ⟨v, List.mem_range.2 h, rfl⟩)
theorem Xi (k n : Nat) : xi k n = subA k fun v => [fvI (n + v)] := rfl
theorem Z2 (k : Nat) (A : Nat -> List TyI) : ∀ j, j <= k -> putX (subA k A) (parV j) = (List.range j).flatMap A
 | 0, _ => rfl
 | j + 1, h => by
  rw [YI, uo, Z2 k A j (by omega), List.range_succ, List.flatMap_append]
  congr 1
  show putX (subA k A) [fvI j] = _
  rw [x3, vD, yI, if_pos (varB_fv j), show (fvI j).v = ((j : Nat) : Int) from rfl, lk_subA A (by omega)]
  simp
def wO (k n : Nat) : List MTy := (List.range k).map fun v => ⟨[fvI (n + v)]⟩
theorem Q7 (k n : Nat) : wO (k + 1) n = wO k n ++ [⟨[fvI (n + k)]⟩] := by unfold wO; rw [List.range_succ, List.map_append]; rfl
theorem argsF_len (k n : Nat) : (wO k n).length = k := by unfold wO; rw [List.length_map, List.length_range]
theorem UX (nm : ByteArray) (k n : Nat) (hb : varB ⟨0, nm, (k : Nat)⟩ = false) : z4 nm (wO k n) = putX (xi k n) (⟨0, nm, (k : Nat)⟩ :: parV k) := by
 rw [x3, yI, if_neg (by rw [hb]; simp), Xi, Z2 _ _ _ (Nat.le_refl _)]
 unfold z4 wO
 rw [List.length_map, List.length_range, List.flatMap_map]
 rfl
theorem Qd (n : Nat) : putX (xi 1 n) ym = ⟨0, ⟨#[108, 105, 115, 116]⟩, 1⟩ :: [fvI n] := by
 have := UX ⟨#[108, 105, 115, 116]⟩ 1 n (by rw [wl]; decide)
 exact this.symm
theorem pair_put (n : Nat) : putX (xi 1 n) (wV ++ ym) = z4 ⟨#[42]⟩ [⟨[fvI n]⟩, ⟨putX (xi 1 n) ym⟩] := by
 have h1 : putX (xi 1 n) wV = [⟨0, ⟨#[42]⟩, 2⟩, fvI n] := by
  show putX (xi 1 n) (⟨0, ⟨#[42]⟩, 2⟩ :: parV 1) = _
  rw [x3, yI, if_neg (by rw [wl]; decide), Xi, Z2 _ _ _ (Nat.le_refl _)]; rfl
 rw [uo, h1]; simp [z4]
theorem Yp (name : ByteArray) : FCon Tryz.prog 77 [.s (.string name)] (fun r _ => r = .ag [.sl 3 ((nmT name).map TyI.enc)]) := by
 have h := QQ name
 refine FCon.ice ?_
 refine FI PM Tryz.func77 Tryz.ntmps77 [] rfl rfl ?_
 (have hWf := f0; repeat' (first | refine zS ?_ | refine zI ?_ ?_ | refine zK h ?_ | exact zF0 | refine zD fun hb => ?_ | exact zC | refine zT ?_ | fail))
 all_goals first | exact xD TyI.pure _ _ [(⟨0, name, 0⟩ : TyI)] | rfl
theorem VQ (name : ByteArray) (l : List MTy) (hl : l.length <= 2) (hi : ∀ t ∈ l, t.items.length <= 100000) : FCon Tryz.prog 78 [.s (.string name), .sl 1 (l.map MTy.enc)] (fun r _ => r = .ag [.sl 3 ((z4 name l).map TyI.enc)]) := FCon.ice ((XC name l hl hi).mono fun r _ e => by
 subst e
 simp only [frA, frzL, frz, TyI.frzS])
theorem MTy_frz (xs : List MTy) : xN (xs.map MTy.enc) = xs.map MTy.enc := xR (fun x => by simp only [MTy.enc_eq, frzL, frz, xR (fun y : TyI => show frzL y.enc = y.enc by simp only [TyI.enc_eq, frzL, frz]) x.items]) xs
section
variable {ts : List MType} {N : List (List D)}
def YX : (List TyI × List TyI × Bool) -> D := fun q => .tup [.ag [.sl 3 (q.1.map TyI.enc)], .ag [.sl 3 (q.2.1.map TyI.enc)], .s (.bool q.2.2), .s (.bool true)]
theorem c_l06ConB (s : IS) (name : ByteArray) (hn : s.nx <= 3000000) (h : name.toList = [116, 114, 117, 101] \/ name.toList = [102, 97, 108, 115, 101]) :
  FCon Tryz.prog 130 [.opt (sR (ts.map MType.enc) N s), .s (.string name)] (fun r o => r = .tup [.ag [.sl 3 (vP.map TyI.enc)], .ag [.nil], .s (.bool false), .s (.bool true)] /\ o = [.opt (sR (ts.map MType.enc) N s), .un]) := by
 have nb := Yp ⟨#[98, 111, 111, 108]⟩
 have cs : ∃ b1 b2 : Bool, (name.toList == [116, 114, 117, 101]) = b1 /\ (name.toList == [102, 97, 108, 115, 101]) = b2 /\ (b1 = true \/ (b1 = false /\ b2 = true)) := by
  refine ⟨_, _, rfl, rfl, ?_⟩
  rcases h with h | h <;> rw [h]
  ·exact .inl (by decide)
  ·exact .inr ⟨by decide, by decide⟩
 obtain ⟨b1, b2, e1, e2, rfl | ⟨rfl, rfl⟩⟩ := cs
 all_goals
  rw [xB]
  refine FI PM Tryz.func130 Tryz.ntmps130 [(6, 9, [7, 8], [(7, 5), (7, 6), (8, 5), (8, 6)], (lin [7, 8] [0, 1, 2, 3, 4, 5, 6, 7, 8])), (22, 12, [10, 11], [(10, 8), (10, 9), (11, 8), (11, 9)], (lin [10, 11] [0, 1, 2, 3, 4, 5, 6, 7, 8, 9, 10, 11]))] rfl rfl ?_
  (have hWf := w4 @e1 @e2 @lt_t @lf_t; repeat' (first | refine zS ?_ | refine zI ?_ ?_ | refine zK nb ?_ | exact zF0 | refine zD fun hb => ?_ | exact zC | refine zT ?_ | fail))
  all_goals rfl
theorem c_l06ConL (s : IS) (name : ByteArray) (hn : s.nx <= 3000000) (b4 : Bool) (h : name.toList = (if b4 then [58, 58] else [91, 93])) :
  FCon Tryz.prog 130 [.opt (sR (ts.map MType.enc) N s), .s (.string name)] (fun r o => r = YX (putX (xi 1 s.nx) ym, putX (xi 1 s.nx) (wV ++ ym), b4) /\ o = [.opt (sR (ts.map MType.enc) N (incM s 1)), .un]) := by
 have nw := XD (T := ts.map MType.enc) (N := N) s (by omega)
 have n1 := XC ⟨#[108, 105, 115, 116]⟩ [⟨[fvI s.nx]⟩] (by simp) (by simp)
 have n2 := VQ ⟨#[42]⟩ [⟨[fvI s.nx]⟩, ⟨putX (xi 1 s.nx) ym⟩] (by simp) (by rw [Qd]; simp)
 have e1 : (name.toList == [116, 114, 117, 101]) = false := by cases b4 <;> rw [h] <;> decide
 have e2 : (name.toList == [102, 97, 108, 115, 101]) = false := by cases b4 <;> rw [h] <;> decide
 have e4 : (name.toList == [58, 58]) = b4 := by cases b4 <;> rw [h] <;> decide
 have e3 : (name.toList == [91, 93]) = !b4 := by cases b4 <;> rw [h] <;> decide
 have hl : z4 ⟨#[108, 105, 115, 116]⟩ [⟨[fvI s.nx]⟩] = putX (xi 1 s.nx) ym := by rw [Qd]; rfl
 rw [hl] at n1
 rw [<- pair_put] at n2
 unfold YX
 dsimp only
 clear h hl
 generalize putX (xi 1 s.nx) (wV ++ ym) = X2 at *
 generalize putX (xi 1 s.nx) ym = X1 at *
 have n1 : FCon Tryz.prog 78 [.s (.string ⟨#[108, 105, 115, 116]⟩), .sl 1 [[.sl 3 [(fvI s.nx).enc]]]] (fun r _ => r = .ag [.osl 143 3 (X1.map TyI.own)]) := n1
 have n2 : FCon Tryz.prog 78 [.s (.string ⟨#[42]⟩), .sl 1 [[.sl 3 [(fvI s.nx).enc]], [.sl 3 (X1.map TyI.enc)]]] (fun r _ => r = .ag [.sl 3 (X2.map TyI.enc)]) := n2
 rw [xB] at nw ⊢
 rw [xB] at nw ⊢
 cases b4
 all_goals
  refine FI PM Tryz.func130 Tryz.ntmps130 [(6, 9, [7, 8], [(7, 5), (7, 6), (8, 5), (8, 6)], (lin [7, 8] [0, 1, 2, 3, 4, 5, 6, 7, 8])), (22, 12, [10, 11], [(10, 8), (10, 9), (11, 8), (11, 9)], (lin [10, 11] [0, 1, 2, 3, 4, 5, 6, 7, 8, 9, 10, 11]))] rfl rfl ?_
  iterate 8 (refine xj ?_; simp only [go_sem, simprocAttr, e1, e2, e3, e4, lt_t, lf_t, Y5, Y6]; (have hWf := w8 @e1 @e2 @e3 @e4 @lt_t @lf_t @Y5 @Y6; repeat' (first | refine zY ?_ | refine zI ?_ ?_ | refine zH nw ?_ | refine zK n1 ?_ | exact zF1 | refine zD fun hb => ?_ | exact zC | refine zT ?_ | fail)))
  all_goals first | exact xD TyI.pure _ _ X1 | skip
  refine yS 1036 (.arr 143 3 (X1.map TyI.own)) (by simp only [go_sem, simprocAttr]) rfl ?_
  (have hWf := w9 @e1 @e2 @e3 @e4 @lt_t @lf_t @Y5 @Y6 @TyI.frzS; repeat' (first | refine zS ?_ | refine zI ?_ ?_ | refine zK n2 ?_ | exact zF0 | refine zD fun hb => ?_ | exact zC | refine zT ?_ | fail))
theorem c_l06ConT (s : IS) (name : ByteArray) (hn : s.nx <= 3000000) (h : ¬ (name.toList = [116, 114, 117, 101] \/ name.toList = [102, 97, 108, 115, 101])) (h2 : ¬ (name.toList = [91, 93] \/ name.toList = [58, 58])) (T : yh ts) :
  FCon Tryz.prog 130 [.opt (sR (ts.map MType.enc) N s), .s (.string name)] (fun r o => match yd ts name with
   | none => r = .tup [.ag [.nil], .ag [.nil], .s (.bool false), .s (.bool false)] /\ o = [.opt (sR (ts.map MType.enc) N s), .un]
   | some q => r = YX (putX (xi q.1.params.toNat s.nx) (ownT q.1), putX (xi q.1.params.toNat s.nx) q.2.arg, q.2.has) /\ o = [.opt (sR (ts.map MType.enc) N (incM s q.1.params.toNat)), .un]) := by
 simp only [not_or] at h h2
 have e1 : (name.toList == [116, 114, 117, 101]) = false := by simpa using h.1
 have e2 : (name.toList == [102, 97, 108, 115, 101]) = false := by simpa using h.2
 have e3 : (name.toList == [91, 93]) = false := by simpa using h2.1
 have e4 : (name.toList == [58, 58]) = false := by simpa using h2.2
 have hl := T.len
 have hcl := T.cl
 have hpar := T.par
 have harg := T.arg
 have hno' := T.no
 have hnm := T.nm
 clear h h2 T
 unfold YX
 rw [xB]
 refine FI PM Tryz.func130 Tryz.ntmps130 [(6, 9, [7, 8], [(7, 5), (7, 6), (8, 5), (8, 6)], (lin [7, 8] [0, 1, 2, 3, 4, 5, 6, 7, 8])), (22, 12, [10, 11], [(10, 8), (10, 9), (11, 8), (11, 9)], (lin [10, 11] [0, 1, 2, 3, 4, 5, 6, 7, 8, 9, 10, 11]))] rfl rfl ?_
 (have hWf := w8 @e1 @e2 @e3 @e4 @lt_t @lf_t @Y5 @Y6; repeat' (first | refine zS ?_ | refine zI ?_ ?_ | exact zF0 | refine zD fun hb => ?_ | exact zC | refine zT ?_ | fail))
 refine xd (fun n σ => ∃ k : Nat, k <= ts.length /\ n = ts.length - k /\ yd (ts.take k) name = none /\ σ.t 0 = .bx 900000 0 /\ σ.t 1 = .s (.string name) /\ σ.t 4 = .bx 4 0 /\ σ.b 4 = some (.box [.nil]) /\ σ.t 5 = .bx 5 0 /\ σ.b 5 = some (.box [.nil]) /\ σ.t 48 = .sl 3 (ts.map MType.enc) /\ σ.t 49 = .s (.int .i64 ts.length) /\ σ.t 50 = .s (.int .i64 k) /\ σ.b 900000 = some (.box [.sl 3 (ts.map MType.enc), .sl 6 N, .sl 2 (s.l.map SubM.enc), .s (.int .i64 s.nx), .s (.int .i64 s.code), .s (.int .i64 s.at_)])) ts.length ⟨0, by omega, by omega, rfl, ?_⟩ ?_
 ·simp only [go_sem, simprocAttr, Int.natCast_zero]
  done
 ·rintro n σ ⟨k, hk, rfl, hno, h0, h1, h4, b4, h5, b5, h48, h49, h50, b9⟩ K' hK
  by_cases hlt : k < ts.length
  ·have htm := List.getElem_mem hlt
   have hx := xb MType.enc ts k hlt
   have hcl' := hcl _ htm
   have hp' := hpar _ htm
   have harg' := harg _ htm
   have hno2 := hno' _ htm
   have hnm' := hnm _ htm
   have hstep := Yt ts name k hlt hno
   have hhit := Zs ts name k hlt hno
   clear hno hcl hpar harg hno' hnm
   generalize ht : ts[k] = t at hx hcl' hp' harg' hno2 hnm' hstep hhit
   have hte := MType.enc_eq t
   (have hWf := w10 @h0 @h1 @h4 @b4 @h5 @b5 @h48 @h49 @h50 (ai @b9 <| ai @hx <| @hte); repeat' (first | refine zS ?_ | refine zI ?_ ?_ | exact zF0 | refine zD fun hb => ?_ | exact zC | refine zT ?_ | fail))
   refine xd (fun n σ => ∃ j : Nat, j <= t.cons.length /\ n = t.cons.length - j /\ (∀ c ∈ t.cons.take j, (c.name.toList == name.toList) = false) /\ σ.t 0 = .bx 900000 0 /\ σ.t 1 = .s (.string name) /\ σ.t 4 = .bx 4 0 /\ σ.b 4 = some (.box [.nil]) /\ σ.t 5 = .bx 5 0 /\ σ.b 5 = some (.box [.nil]) /\ σ.t 48 = .sl 3 (ts.map MType.enc) /\ σ.t 49 = .s (.int .i64 ts.length) /\ σ.t 50 = .s (.int .i64 k) /\ σ.b 900000 = some (.box [.sl 3 (ts.map MType.enc), .sl 6 N, .sl 2 (s.l.map SubM.enc), .s (.int .i64 s.nx), .s (.int .i64 s.code), .s (.int .i64 s.at_)]) /\ σ.t 11 = .bx 11 0 /\ σ.b 11 = some (.box [.s (.string t.name), .s (.int .i64 t.params), .sl 3 (t.cons.map MCon.enc)]) /\ σ.t 55 = .sl 3 (t.cons.map MCon.enc) /\ σ.t 56 = .s (.int .i64 t.cons.length) /\ σ.t 57 = .s (.int .i64 j)) t.cons.length ⟨0, by omega, by omega, by simp, ?_⟩ ?_
   ·simp only [go_sem, simprocAttr, h0, h1, h4, b4, h5, b5, h48, h49, h50, b9, Int.natCast_zero]
    done
   ·rintro n σ ⟨j, hj, rfl, hnj, g0, g1, g4, c4, g5, c5, g48, g49, g50, c9, g11, c11, g55, g56, g57⟩ K'' hK''
    by_cases hlj : j < t.cons.length
    ·have hy := xb MCon.enc t.cons j hlj
     have hhit' := hhit j hlj hnj
     have hargc := harg' _ (List.getElem_mem hlj)
     have hnoc := hno2 _ (List.getElem_mem hlj)
     have htk := List.take_succ_eq_append_getElem hlj
     generalize hc : t.cons[j] = c at hy hhit' hargc hnoc htk
     have hce := MCon.enc_eq c
     cases e5 : (c.name.toList == name.toList) with
     | false =>
      (have hWf := w10 @g0 @g1 @g4 @c4 @g5 @c5 @g48 @g49 @g50 (ai @c9 <| ai @g11 <| ai @c11 <| ai @g55 <| ai @g56 <| ai @g57 <| ai @hy <| ai @hce <| @e5); repeat' (first | refine zS ?_ | refine zI ?_ ?_ | exact zF0 | refine zD fun hb => ?_ | exact zC | refine zT ?_ | fail))
      refine hK'' (t.cons.length - (j + 1)) _ (by omega) ⟨j + 1, by omega, rfl, (by
       rw [htk]; intro x hx2
       rcases List.mem_append.1 hx2 with q | q
       ·exact hnj x q
       ·rw [List.mem_singleton.1 q]; exact e5), ?_⟩
      simp only [go_sem, simprocAttr, g0, g1, g4, c4, g5, c5, g48, g49, g50, c9, g11, c11, g55, g56, g57, Int.natCast_succ]
      done
     | true =>
      have hf := hhit' e5
      rw [hf]
      clear hf hhit hhit' hstep hK hK''
      obtain ⟨pn, hpn⟩ : ∃ pn : Nat, t.params = pn := ⟨t.params.toNat, by omega⟩
      have hpt : t.params.toNat = pn := by omega
      dsimp only
      rw [hpt]
      (have hWf := w10 @g0 @g1 @g4 @c4 @g5 @c5 @g48 @g49 @g50 (ai @c9 <| ai @g11 <| ai @c11 <| ai @g55 <| ai @g56 <| ai @g57 <| ai @hy <| ai @hce <| @e5); repeat' (first | refine zS ?_ | refine zI ?_ ?_ | exact zF0 | refine zD fun hb => ?_ | exact zC | refine zT ?_ | fail))
      refine xd (fun n σ => ∃ v : Nat, v <= pn /\ n = pn - v /\ σ.t 0 = .bx 900000 0 /\ σ.t 4 = .bx 4 0 /\ σ.b 4 = some (.box [.nil]) /\ σ.t 5 = .bx 5 0 /\ σ.b 5 = some (.box [.nil]) /\ σ.t 11 = .bx 11 0 /\ σ.b 11 = some (.box [.s (.string t.name), .s (.int .i64 t.params), .sl 3 (t.cons.map MCon.enc)]) /\ σ.t 13 = .bx 13 0 /\ σ.b 13 = some (.box [.s (.string c.name), .s (.bool c.has), .sl 3 (c.arg.map TyI.enc)]) /\ σ.t 14 = .bs 65 1 v /\ σ.b 65 = some (.arr 31 1 ((wO v s.nx).map MTy.enc)) /\ σ.t 15 = .bs 66 2 v /\ σ.b 66 = some (.arr 160 2 ((xi v s.nx).map SubM.enc)) /\ σ.t 16 = .s (.int .i64 v) /\ σ.b 900000 = some (.box [.sl 3 (ts.map MType.enc), .sl 6 N, .sl 2 (s.l.map SubM.enc), .s (.int .i64 ((s.nx + v : Nat) : Int)), .s (.int .i64 s.code), .s (.int .i64 s.at_)])) pn ⟨0, by omega, by omega, ?_⟩ ?_
      ·simp only [go_sem, simprocAttr, g0, g4, c4, g5, c5, c9, g11, c11, Int.natCast_zero]
       exact ⟨rfl, rfl⟩
      ·rintro n σ ⟨v, hv, rfl, i0, i4, d4, i5, d5, i11, d11, i13, d13, i14, d65, i15, d66, i16, d9⟩ K3 hK3
       have hfl := XJ v s.nx
       have hal := argsF_len v s.nx
       by_cases hlv : v < pn
       ·have nw := XD (T := ts.map MType.enc) (N := N) ⟨s.l, s.nx + v, s.code, s.at_⟩ (show s.nx + v <= 4000000 by omega)
        rw [xB, xB] at nw
        (have hWf := w10 @i0 @i4 @d4 @i5 @d5 @i11 @d11 @i13 @d13 (ai @i14 <| ai @d65 <| ai @i15 <| ai @d66 <| ai @i16 <| ai @d9 <| ai @hfl <| ai @hal <| @hpn); repeat' (first | refine zS ?_ | refine zI ?_ ?_ | refine zH nw ?_ | exact zF0 | refine zD fun hb => ?_ | exact zC | refine zT ?_ | fail))
        refine hK3 (pn - (v + 1)) _ (by omega) ⟨v + 1, by omega, rfl, ?_⟩
        simp only [go_sem, simprocAttr, i0, i4, d4, i5, d5, i11, d11, i13, d13, i14, d65, i15, d66, i16, d9, Int.natCast_succ, Q7, Xj, List.map_append]
        exact ⟨by rw [MTy.enc_eq]; rfl, by rw [SubM.enc_eq]; rfl, rfl⟩
       ·obtain rfl : v = pn := by omega
        refine yS 65 (.arr 31 1 ((wO v s.nx).map MTy.enc)) (by simp only [go_sem, simprocAttr, d65]) rfl ?_
        refine yS 66 (.arr 160 2 ((xi v s.nx).map SubM.enc)) (by simp only [go_sem, simprocAttr, d66]) rfl ?_
        have hcl2 : c.arg.length <= 200 := by
         cases hh : c.has with
         | true => exact (hargc hh).2
         | false => rw [hnoc hh]; exact Nat.zero_le _
        have hfa := yW v s.nx c.arg
        have nm := VQ t.name (wO v s.nx) (by omega) (fun q hq => by
         unfold wO at hq
         obtain ⟨_, _, rfl⟩ := List.mem_map.1 hq
         show [_].length <= _; simp)
        have ap := zJ c.arg (xi v s.nx) (by omega) (by omega) (Xi v s.nx ▸ QG _ _) (by omega)
        have hb1 := (UW hnm' t.params hp'.1 hp'.2).1
        have ho : ownT t = ⟨0, t.name, (v : Nat)⟩ :: parV v := by unfold ownT; rw [hpt, hpn]
        rw [hpn] at hb1
        rw [UX t.name v s.nx hb1, <- ho] at nm
        (have hWf := w10 @i0 @i4 @d4 @i5 @d5 @i11 @d11 @i13 @d13 (ai @i14 <| ai @d65 <| ai @i15 <| ai @d66 <| ai @i16 <| ai @d9 <| ai @hfl <| ai @hal <| ai @hpn <| ai @SubM.frzE <| @MTy_frz); repeat' (first | refine zS ?_ | refine zI ?_ ?_ | refine zK nm ?_ | refine zK ap ?_ | exact zF0 | refine zD fun hb => ?_ | exact zC | refine zT ?_ | fail))
        all_goals rfl
    ·obtain rfl : j = t.cons.length := by omega
     rw [List.take_length] at hnj
     (have hWf := w10 @g0 @g1 @g4 @c4 @g5 @c5 @g48 @g49 @g50 (ai @c9 <| ai @g11 <| ai @c11 <| ai @g55 <| ai @g56 <| @g57); repeat' (first | refine zS ?_ | refine zI ?_ ?_ | exact zF0 | refine zD fun hb => ?_ | exact zC | refine zT ?_ | fail))
     refine hK (ts.length - (k + 1)) _ (by omega) ⟨k + 1, by omega, rfl, hstep hnj, ?_⟩
     simp only [go_sem, simprocAttr, g0, g1, g4, c4, g5, c5, g48, g49, g50, c9, Int.natCast_succ]
     done
  ·obtain rfl : k = ts.length := by omega
   rw [List.take_length] at hno
   rw [hno]
   (have hWf := w10 @h0 @h1 @h4 @b4 @h5 @b5 @h48 @h49 @h50 @b9; repeat' (first | refine zS ?_ | refine zI ?_ ?_ | exact zF0 | refine zD fun hb => ?_ | exact zC | refine zT ?_ | fail))
def conSRD : Option ((List TyI × List TyI × Bool) × IS) -> D
 | none => .tup [.ag [.sl 3 []], .ag [.sl 3 []], .s (.bool false), .s (.bool false)]
 | some q => YX q.1
def conSt (s : IS) : Option ((List TyI × List TyI × Bool) × IS) -> IS
 | none => s
 | some q => q.2
theorem FCon.tup4 {P : Program} {f : FuncId} {args o : List D} {x1 x2 y1 y2 c d : D} (h : FCon P f args (fun r o' => r = .tup [x1, x2, c, d] /\ o' = o)) (h1 : nwT x1 y1) (h2 : nwT x2 y2) : FCon P f args (fun r o' => r = .tup [y1, y2, c, d] /\ o' = o) := h.tupN rfl fun m x x' hx hx' => by
 match m, hx, hx' with
 | 0, hx, hx' => rw [<- Option.some.inj hx, <- Option.some.inj hx']; exact h1
 | 1, hx, hx' => rw [<- Option.some.inj hx, <- Option.some.inj hx']; exact h2
 | 2, hx, hx' => exact .inl (by rw [<- Option.some.inj hx, <- Option.some.inj hx'])
 | 3, hx, hx' => exact .inl (by rw [<- Option.some.inj hx, <- Option.some.inj hx'])
 | m + 4, hx, hx' => simp at hx
theorem c_l06Con (T : yh ts) (s : IS) (name : ByteArray) (hn : s.nx <= 3000000) :
  FCon Tryz.prog 130 [.opt (sR (ts.map MType.enc) N s), .s (.string name)] (fun r o => r = conSRD (zL ts s name) /\ o = [.opt (sR (ts.map MType.enc) N (conSt s (zL ts s name))), .un]) := by
 by_cases h1 : name.toList = [116, 114, 117, 101] \/ name.toList = [102, 97, 108, 115, 101]
 ·have e : zL ts s name = some ((vP, [], false), s) := if_pos h1
  rw [e]
  exact (c_l06ConB s name hn h1).tup4 (.inl rfl) (.inr (.inr ⟨rfl, 3, rfl⟩))
 by_cases h2 : name.toList = [91, 93] \/ name.toList = [58, 58]
 ·have e : zL ts s name = some ((putX (xi 1 s.nx) ym, putX (xi 1 s.nx) (wV ++ ym), name.toList == [58, 58]), incM s 1) := by unfold zL; rw [if_neg h1, if_pos h2]
  rw [e]
  refine c_l06ConL s name hn (name.toList == [58, 58]) ?_
  rcases h2 with h | h <;> rw [h] <;> rfl
 ·have e : zL ts s name = (yd ts name).map fun q => ((putX (xi q.1.params.toNat s.nx) (ownT q.1), putX (xi q.1.params.toNat s.nx) q.2.arg, q.2.has), incM s q.1.params.toNat) := by unfold zL; rw [if_neg h1, if_neg h2]
  rw [e]
  have := c_l06ConT (N := N) s name hn h1 h2 T
  cases hf : yd ts name with
  | none =>
   rw [hf] at this
   exact this.tup4 (.inr (.inr ⟨rfl, 3, rfl⟩)) (.inr (.inr ⟨rfl, 3, rfl⟩))
  | some q => rw [hf] at this; exact this
theorem Ux (T : yh ts) (s : IS) (name : ByteArray) (k a : Int) (hn : s.nx <= 3000000) :
  FCon Tryz.prog 79 [.opt (sR (ts.map MType.enc) N s), .s (.string name), .s (.int .i64 k), .s (.int .i64 a)] (fun r o => r = .tup [.ag [.sl 3 ((xk ts s name (k == 1) a).1.1.map TyI.enc)], .ag [.sl 3 ((xk ts s name (k == 1) a).1.2.map TyI.enc)]] /\ o = [.opt (sR (ts.map MType.enc) N (xk ts s name (k == 1) a).2), .un, .un, .un]) := by
 have cc := c_l06Con (N := N) T s name hn
 unfold xk
 cases hc : zL ts s name with
 | none =>
  rw [hc] at cc
  have cf := uT (T := ts.map MType.enc) (N := N) s 22 a
  unfold conSRD conSt at cc
  simp only [xB] at cc cf ⊢
  refine FI PM Tryz.func79 Tryz.ntmps79 [(6, 3, [2], [(2, 1)], (lin [2] [0, 1, 2]))] rfl rfl ?_
  (have hWf := f0; repeat' (first | refine zS ?_ | refine zI ?_ ?_ | refine zH cc ?_ | refine zH cf ?_ | exact zF0 | refine zD fun hb => ?_ | exact zC | refine zT ?_ | fail))
 | some q =>
  obtain ⟨⟨t, arg, has⟩, s1⟩ := q
  rw [hc] at cc
  have cf := uT (T := ts.map MType.enc) (N := N) s1 23 a
  unfold conSRD conSt YX at cc
  obtain ⟨kb, hkb⟩ : ∃ kb, (k == 1) = kb := ⟨_, rfl⟩
  rw [hkb]
  dsimp only at cc ⊢
  simp only [xB] at cc cf ⊢
  cases kb <;> cases has
  all_goals first | rw [if_pos (by decide)] | rw [if_neg (by decide)]
  all_goals
   refine FI PM Tryz.func79 Tryz.ntmps79 [(6, 3, [2], [(2, 1)], (lin [2] [0, 1, 2]))] rfl rfl ?_
   (have hWf := w1 @hkb; repeat' (first | refine zS ?_ | refine zI ?_ ?_ | refine zH cc ?_ | refine zH cf ?_ | exact zF0 | refine zD fun hb => ?_ | exact zC | refine zT ?_ | fail))
   all_goals trace_state
end
end
section
open Go.RowKit
def RW (d d' : D) : Prop := ∀ (S : Nat -> Prop) (up : Nat -> Option Pos) (w : World) (p : Option Pos) (v : Value), Rep S up w p d v -> Rep S up w p d' v
theorem RW.refl (d : D) : RW d d := fun _ _ _ _ _ h => h
theorem RW.nilS (k : Nat) : RW .nil (.sl k []) := fun _ _ _ _ _ h => Rep.nil_sl k h
def Rr (row row' : List D) : Prop := row'.length = row.length /\ ∀ (j : Nat) (d' : D), row'[j]? = some d' -> ∃ d, row[j]? = some d /\ RW d d'
theorem Rr.refl (row : List D) : Rr row row := ⟨rfl, fun j d' h => ⟨d', h, RW.refl _⟩⟩
theorem Rr.cons {d d' : D} {l l' : List D} (h : RW d d') (hl : Rr l l') : Rr (d :: l) (d' :: l') := ⟨by simp [hl.1], fun j x hx => by
 cases j with
 | zero => simp at hx; subst hx; exact ⟨d, rfl, h⟩
 | succ j => simp at hx; obtain ⟨y, h1, h2⟩ := hl.2 j x hx; exact ⟨y, by simpa using h1, h2⟩⟩
def RWs (rows rows' : List (List D)) : Prop := rows'.length = rows.length /\ ∀ (i : Nat) (row' : List D), rows'[i]? = some row' -> ∃ row, rows[i]? = some row /\ Rr row row'
theorem RWs.refl (rows : List (List D)) : RWs rows rows := ⟨rfl, fun i r h => ⟨r, h, Rr.refl _⟩⟩
theorem RWs.cons {r r' : List D} {l l' : List (List D)} (h : Rr r r') (hl : RWs l l') : RWs (r :: l) (r' :: l') := ⟨by simp [hl.1], fun j x hx => by
 cases j with
 | zero => simp at hx; subst hx; exact ⟨r, rfl, h⟩
 | succ j => simp at hx; obtain ⟨y, h1, h2⟩ := hl.2 j x hx; exact ⟨y, by simpa using h1, h2⟩⟩
theorem RWs.app {a b b' : List (List D)} (h : RWs b b') : RWs (a ++ b) (a ++ b') := by
 induction a with
 | nil => exact h
 | cons r a ih => exact RWs.cons (Rr.refl r) ih
theorem RW.sl {k : Nat} {rows rows' : List (List D)} (h : RWs rows rows') : RW (.sl k rows) (.sl k rows') := fun S up w p v hv => by
 obtain ⟨hl, hr⟩ := h
 cases hv with
 | sl0 q => obtain rfl := List.length_eq_zero_iff.1 hl; exact .sl0 q
 | sl us q1 q2 q3 q4 q5 =>
  rw [<- hl] at q1 ⊢
  refine .sl us q1 q2 (fun i row' hi => ?_) (fun i j row' d' hi hj => ?_) (fun i j row' d' hi hj => ?_)
  ·obtain ⟨row, h1, h2, -⟩ := hr i row' hi; rw [h2]; exact q3 i row h1
  ·obtain ⟨row, h1, -, h3⟩ := hr i row' hi; obtain ⟨d, h4, -⟩ := h3 j d' hj; exact q4 i j row d h1 h4
  ·obtain ⟨row, h1, -, h3⟩ := hr i row' hi; obtain ⟨d, h4, h5⟩ := h3 j d' hj; exact h5 _ _ _ _ _ (q5 i j row d h1 h4)
def noOb : D -> Bool
 | .opa _ _ => false
 | _ => true
def noRef : D -> Bool
 | .bx _ _ => false
 | .el _ _ _ _ => false
 | .bs _ _ _ => false
 | _ => true
theorem noRef_sc {q : Nat -> Bool} {c : D} (h : noRef c = true) : scC q c = c := by cases c <;> first | rfl | cases h
def okOut : D -> Bool
 | .opa _ row => row.all noRef
 | .ag ys => ys.all noOb
 | _ => true
def compB : D -> Bool
 | .ag ys => ys.all noOb
 | c => noOb c
def okAns : D -> Bool
 | .tup xs => xs.all compB
 | d => compB d
theorem Zg {q : Nat -> Bool} {d : D} {o : Ob} (h : noOb d = true) (e : unfD d = some o) : scO q o = o := by
 cases d with
 | osl e' k rows =>
  have e : some (Ob.arr e' k rows) = some o := e
  injection e with e; subst e; rfl
 | opa k row => cases h
 | _ => cases e
theorem ZG {d y : D} {l : Nat} (hd : ∀ ys, d ≠ .ag ys) (e : ye d l = some y) : y = d := by
 have e : (if l = 0 then some d else none) = some y := by
  cases d with
  | ag ys => exact absurd rfl (hd ys)
  | _ => exact e
 split at e
 ·injection e with e; exact e.symm
 ·cases e
theorem unfD_out {q : Nat -> Bool} {d : D} {o : Ob} {l : Nat} (h : okOut d = true) (e : (ye d l).bind unfD = some o) : scO q o = o := by
 obtain ⟨c, e1, e2⟩ := Option.bind_eq_some_iff.1 e
 cases d with
 | ag ys =>
  have hm : c ∈ ys := List.mem_of_getElem? e1
  exact Zg (List.all_eq_true.1 h c hm) e2
 | opa k row =>
  obtain rfl := ZG (fun ys => by simp) e1
  injection e2 with e2; subst e2
  have this : row.map (scC q) = row := by
   have : ∀ c ∈ row, scC q c = c := fun c hc => noRef_sc (List.all_eq_true.1 h c hc)
   exact (List.map_congr_left this).trans (List.map_id _)
  simp only [scO, this]
 | _ =>
  obtain rfl := ZG (fun ys => by simp) e1
  exact Zg rfl e2
theorem comp_cell {z y : D} {l : Nat} (hz : compB z = true) (hy : ye z l = some y) : noOb y = true := by
 cases z with
 | ag ys => exact List.all_eq_true.1 hz y (List.mem_of_getElem? hy)
 | _ =>
  obtain rfl := ZG (fun ys => by simp) hy
  exact hz
theorem comp_one {r x : D} {m : Nat} (hd : ∀ ys, r ≠ .tup ys) (e : uY r m = some x) : x = r := by
 have e : (if m = 0 then some r else none) = some x := by
  cases r with
  | tup ys => exact absurd rfl (hd ys)
  | _ => exact e
 split at e
 ·injection e with e; exact e.symm
 ·cases e
theorem ansO_sc {q : Nat -> Bool} {c : Nat} {r : D} (h : okAns r = true) {i : Nat} {o : Ob} (e : ansO c r i = some o) : scO q o = o := by
 unfold ansO at e
 split at e
 ·obtain ⟨x, e1, e2⟩ := Option.bind_eq_some_iff.1 e
  obtain ⟨y, e3, e4⟩ := Option.bind_eq_some_iff.1 e2
  refine Zg (comp_cell (z := x) ?_ e3) e4
  cases r with
  | tup xs => exact List.all_eq_true.1 h x (List.mem_of_getElem? e1)
  | _ =>
   obtain rfl := comp_one (fun ys => by simp) e1
   exact h
 ·cases e
theorem outO_sc {q : Nat -> Bool} {outs : List D} (h : outs.all okOut = true) : ∀ (gs : List Gv) {i : Nat} {o : Ob}, outO outs gs i = some o -> scO q o = o
 | [], i, o, e => by cases e
 | (n, j, l) :: gs, i, o, e => by
  rw [outO] at e
  split at e
  ·obtain ⟨c, e1, e2⟩ := Option.bind_eq_some_iff.1 e
   exact unfD_out (List.all_eq_true.1 h c (List.mem_of_getElem? e1)) e2
  ·exact outO_sc h gs e
section
variable {σ : St} {d : Nat} {o : Ob} {x : D}
theorem nc_sc {p r : Nat -> Bool} (h1 : r d = true) (h2 : scO p o = o) (h3 : scT p x = x) : (((σ.sc (fun i => i != d) (fun i => i != d)).setB d o).put (some d) x).sc p r = (((σ.sc p r).sc (fun i => i != d) (fun i => i != d)).setB d o).put (some d) x := by
 simp only [St.put, St.setB, St.sc]
 congr 1
 ·funext i
  by_cases e : i = d
  ·subst e; rw [if_pos rfl, if_pos rfl, h3]
  ·rw [if_neg e, if_neg e]; exact X4 _ _ _
 ·funext i
  by_cases e : i = d
  ·subst e; rw [if_pos rfl, if_pos rfl, if_pos h1, Option.map_some, h2]
  ·have e2 : (i != d) = true := by simpa using e
   rw [if_neg e, if_neg e, if_pos e2, if_pos e2]
   split
   ·rw [Option.map_map, Option.map_map]
    cases σ.b i with
    | none => rfl
    | some q => exact congrArg some (X3 _ _ q)
   ·rfl
theorem W3 {i : Nat} {p : Ob} (h1 : i ≠ d) (h2 : scO (fun i => i != d) p = p) : (((σ.sc (fun i => i != d) (fun i => i != d)).setB d o).put (some d) x).setB i p = (((σ.setB i p).sc (fun i => i != d) (fun i => i != d)).setB d o).put (some d) x := by
 simp only [St.put, St.setB, St.sc]
 congr 1
 funext k
 by_cases e : k = i
 ·subst e
  have e2 : (k != d) = true := by simpa using h1
  rw [if_pos rfl, if_neg h1, if_pos e2, if_pos rfl, Option.map_some, h2]
 ·rw [if_neg e]
  by_cases e2 : k = d
  ·rw [if_pos e2, if_pos e2]
  ·rw [if_neg e2, if_neg e2, if_neg e]
theorem zw {i : Nat} {y : D} (h1 : i ≠ d) (h2 : scT (fun i => i != d) y = y) : (((σ.sc (fun i => i != d) (fun i => i != d)).setB d o).put (some d) x).put (some i) y = (((σ.put (some i) y).sc (fun i => i != d) (fun i => i != d)).setB d o).put (some d) x := by
 simp only [St.put, St.setB, St.sc]
 congr 1
 funext k
 by_cases e : k = i
 ·subst e; rw [if_pos rfl, if_neg h1, if_pos rfl, h2]
 ·rw [if_neg e]
  by_cases e2 : k = d
  ·rw [if_pos e2, if_pos e2]
  ·rw [if_neg e2, if_neg e2, if_neg e]
theorem nc_cal {c : Nat} {gs : List Gv} {r : D} {outs : List D} (h1 : ansB c d = false) (h2 : inG gs d = false) (h3 : outO outs gs d = none) (h4 : okAns r = true) (h5 : outs.all okOut = true) (h6 : scO (qCal c gs outs) o = o) (h7 : scT (qCal c gs outs) x = x) : (((σ.sc (fun i => i != d) (fun i => i != d)).setB d o).put (some d) x).cal c gs r outs = (((σ.cal c gs r outs).sc (fun i => i != d) (fun i => i != d)).setB d o).put (some d) x := by
 simp only [St.put, St.setB, St.sc, St.cal]
 congr 1
 ·funext i
  by_cases e : i = d
  ·subst e; rw [if_pos rfl, if_pos rfl, h7]
  ·rw [if_neg e, if_neg e]; exact X4 _ _ _
 ·funext i
  by_cases e : i = d
  ·subst e
   have ha : ansO c r i = none := by unfold ansO; rw [if_neg (by rw [h1]; simp)]
   rw [if_pos rfl, ha, h3, h1, h2]
   simp only [Bool.false_eq_true, or_self, if_false, if_true, Option.map_some, h6]
  ·have e2 : (i != d) = true := by simpa using e
   rw [if_neg e, if_neg e, if_pos e2, if_pos e2]
   cases ha : ansO c r i with
   | some q => exact (congrArg some (ansO_sc h4 ha)).symm
   | none =>
    cases hb : outO outs gs i with
    | some q =>
     dsimp only
     split
     ·rfl
     ·exact (congrArg some (outO_sc h5 gs hb)).symm
    | none =>
     dsimp only
     split
     ·rfl
     ·rw [Option.map_map, Option.map_map]
      cases σ.b i with
      | none => rfl
      | some q => exact congrArg some (X3 _ _ q)
theorem W4 {id : Nat} {row : List D} (h1 : id ≠ d) (h2 : unfO id row d = none) (h3 : row.all noOb = true) (h4 : scO (fun i => i != d) (.box (unfL id 0 row)) = .box (unfL id 0 row)) (h6 : scO (pUn id row) o = o) (h7 : scT (pUn id row) x = x) : (((σ.sc (fun i => i != d) (fun i => i != d)).setB d o).put (some d) x).unfB id row = (((σ.unfB id row).sc (fun i => i != d) (fun i => i != d)).setB d o).put (some d) x := by
 simp only [St.put, St.setB, St.sc, St.unfB]
 congr 1
 ·funext i
  by_cases e : i = d
  ·subst e; rw [if_pos rfl, if_pos rfl, h7]
  ·rw [if_neg e, if_neg e]; exact X4 _ _ _
 ·funext i
  by_cases e : i = d
  ·subst e
   rw [if_neg (Ne.symm h1), h2, if_pos rfl, if_pos rfl]
   exact congrArg some h6
  ·have e2 : (i != d) = true := by simpa using e
   rw [if_neg e, if_neg e, if_pos e2, if_pos e2]
   by_cases e3 : i = id
   ·rw [if_pos e3, if_pos e3, Option.map_some, h4]
   ·rw [if_neg e3, if_neg e3]
    cases ha : unfO id row i with
    | some q =>
     refine (congrArg some ?_).symm
     unfold unfO at ha
     split at ha
     ·obtain ⟨y, e4, e5⟩ := Option.bind_eq_some_iff.1 ha
      exact Zg (List.all_eq_true.1 h3 y (List.mem_of_getElem? e4)) e5
     ·cases ha
    | none =>
     dsimp only
     rw [Option.map_map, Option.map_map]
     cases σ.b i with
     | none => rfl
     | some q => exact congrArg some (X3 _ _ q)
end
end
section
open Go.RowKit Arb
def bndE (b : Bnd) : List D := [.s (.string b.name), .sl 3 (b.ty.map TyI.enc), .sl 1 (b.gen.map iE)]
def envE (g e : List Bnd) : List (List D) := (g ++ e.reverse).map bndE
theorem iE_e (z : Int) : iE z = [.s (.int .i64 z)] := rfl
theorem envE_cons (g e : List Bnd) (b : Bnd) : envE g (b :: e) = envE g e ++ [bndE b] := by unfold envE; rw [List.reverse_cons, <- List.append_assoc, List.map_append]; rfl
theorem iEs_frz (l : List Int) : xN (l.map iE) = l.map iE := xR (fun _ => rfl) l
theorem tyEs_frz (xs : List TyI) : xN (xs.map TyI.enc) = xs.map TyI.enc := xR (fun x => by simp only [TyI.enc_eq, frzL, frz]) xs
theorem envE_frz (g e : List Bnd) : xN (envE g e) = envE g e := xR (fun b => by simp only [bndE, frzL, frz, iEs_frz, tyEs_frz]) _
theorem FCon.tupR {P : Program} {f : FuncId} {args o : List D} {x : D} {k : Nat} {a b : List (List D)} (h : FCon P f args (fun r o' => r = .tup [x, .sl k a] /\ o' = o)) (hw : RW (.sl k a) (.sl k b)) : FCon P f args (fun r o' => r = .tup [x, .sl k b] /\ o' = o) := h.wk fun r o' e => by
 obtain ⟨rfl, rfl⟩ := e
 refine ⟨_, ⟨rfl, rfl⟩, fun g w v hv => Xw (xs := [x, .sl k a]) (xs' := [x, .sl k b]) rfl (fun m x x' hx hx' u hu => ?_) hv⟩
 match m, hx, hx' with
 | 0, hx, hx' => rw [<- Option.some.inj hx'] ; rw [<- Option.some.inj hx] at hu; exact hu
 | 1, hx, hx' =>
  rw [<- Option.some.inj hx']; rw [<- Option.some.inj hx] at hu
  exact hw _ _ _ _ _ hu
 | m + 2, hx, hx' => simp at hx
theorem ZO {ts : List MType} (T : yh ts) (s : IS) (name : ByteArray) (one : Bool) (a : Int) : (xk ts s name one a).1.1.length <= 3 /\ (xk ts s name one a).1.2.length <= 200 := by
 unfold xk
 cases hc : zL ts s name with
 | none => exact ⟨Nat.zero_le _, Nat.zero_le _⟩
 | some q =>
  obtain ⟨⟨t, arg, has⟩, s1⟩ := q
  dsimp only
  unfold zL at hc
  split at hc
  ·injection hc with hc; injection hc with hc _; injection hc with e1 hc; injection hc with e2 _; subst e1 e2
   exact ⟨by decide, by decide⟩
  ·split at hc
   ·injection hc with hc; injection hc with hc _; injection hc with e1 hc; injection hc with e2 _; subst e1 e2
    exact ⟨Nat.le_trans (yW _ _ _) (by decide), Nat.le_trans (yW _ _ _) (by decide)⟩
   ·obtain ⟨q, hf, e⟩ := Option.map_eq_some_iff.1 hc
    injection e with e _; injection e with e1 e; injection e with e2 _; subst e1 e2
    obtain ⟨ht, hcn⟩ := Xh hf
    refine ⟨Nat.le_trans (yW _ _ _) (own_G (T.nm _ ht) (T.par _ ht)).2, Nat.le_trans (yW _ _ _) ?_⟩
    cases hh : q.2.has with
    | true => exact (T.arg _ ht _ hcn hh).2
    | false => rw [T.no _ ht _ hcn hh]; exact Nat.zero_le _
theorem XU {ts : List MType} (T : yh ts) (a : Int) : ∀ t : PT, okP t -> ∀ (e : List Bnd) (s : IS), (patS ts a t e s).1.length <= 3 * t.size := fun t => by
 induction t using Arb.ind with
 | h b l ih =>
  intro ho e s
  have hsz := Arb.size_pos (Arb.mk b l)
  by_cases q : s.code = 0
  ·have one : ∀ x, l = [x] -> b.kind = 4 -> (patS ts a (.mk b l) e s).1.length <= 3 * (Arb.mk b l).size := by
    intro x hl k
    subst hl
    have L := (ZO T s b.s true a).1
    by_cases z : (xk ts s b.s true a).2.code = 0
    ·rw [vZ (x := x) q k (c := (xk ts s b.s true a).1) (s1 := (xk ts s b.s true a).2) rfl z rfl]
     show (xk ts s b.s true a).1.1.length <= _; omega
    ·rw [vC (l := [x]) q k (c := (xk ts s b.s true a).1) (s1 := (xk ts s b.s true a).2) rfl z]
     show (xk ts s b.s true a).1.1.length <= _; omega
   rcases ho.root with ⟨k, hl, -, -⟩ | ⟨k, hl, -, -⟩ | ⟨k, hl, -, -, -⟩ | ⟨k, hl, -, -⟩ | ⟨c, x, y, k, hl, -, -, -⟩ | ⟨x, k, hl, -, -⟩ | ⟨x, y, k, hl, -, -⟩ | ⟨k, hl, -, -⟩
   ·rw [v5 q k]; show 1 <= _; omega
   ·rw [XV q k]; show 1 <= _; omega
   ·rw [XT q k]; show 1 <= _; omega
   ·subst hl
    have L := (ZO T s b.s false a).1
    rw [vY q k (c := (xk ts s b.s false a).1) (s1 := (xk ts s b.s false a).2) rfl]
    show (xk ts s b.s false a).1.1.length <= _; omega
   ·exact one _ hl k
   ·exact one _ hl k
   ·subst hl
    have h1 := ih x (by simp) (ho.kid x (by simp)) e s
    have h2 := ih y (by simp) (ho.kid y (by simp)) (patS ts a x e s).2.1 (patS ts a x e s).2.2
    have h3 : (Arb.mk b [x, y]).size = 1 + (x.size + y.size) := by rw [size_mk, sizeL_cons, sizeL_cons, sizeL_nil]; omega
    rw [uL (x := x) (y := y) q k (t1 := (patS ts a x e s).1) (e1 := (patS ts a x e s).2.1) (s1 := (patS ts a x e s).2.2) rfl rfl]
    show (zp :: (_ ++ _)).length <= _
    rw [List.length_cons, List.length_append]; omega
   ·rw [v4 q k]; show 1 <= _; omega
  ·rw [yp q]; exact Nat.zero_le _
theorem patS_env {ts : List MType} (a : Int) : ∀ t : PT, okP t -> ∀ (e : List Bnd) (s : IS), (patS ts a t e s).2.1.length <= e.length + t.size := fun t => by
 induction t using Arb.ind with
 | h b l ih =>
  intro ho e s
  have hsz := Arb.size_pos (Arb.mk b l)
  by_cases q : s.code = 0
  ·have one : ∀ x, l = [x] -> b.kind = 4 -> (patS ts a (.mk b l) e s).2.1.length <= e.length + (Arb.mk b l).size := by
    intro x hl k
    subst hl
    by_cases z : (xk ts s b.s true a).2.code = 0
    ·rw [vZ (x := x) q k (c := (xk ts s b.s true a).1) (s1 := (xk ts s b.s true a).2) rfl z rfl]
     have h1 := ih x (by simp) (ho.kid x (by simp)) e (xk ts s b.s true a).2
     have h3 : (Arb.mk b [x]).size = 1 + x.size := by rw [size_mk, sizeL_cons, sizeL_nil]; omega
     show (patS ts a x e (xk ts s b.s true a).2).2.1.length <= _; omega
    ·rw [vC (l := [x]) q k (c := (xk ts s b.s true a).1) (s1 := (xk ts s b.s true a).2) rfl z]
     exact Nat.le_add_right _ _
   rcases ho.root with ⟨k, hl, -, -⟩ | ⟨k, hl, -, -⟩ | ⟨k, hl, -, -, -⟩ | ⟨k, hl, -, -⟩ | ⟨c, x, y, k, hl, -, -, -⟩ | ⟨x, k, hl, -, -⟩ | ⟨x, y, k, hl, -, -⟩ | ⟨k, hl, -, -⟩
   ·rw [v5 q k]; exact Nat.le_add_right _ _
   ·rw [XV q k]; show e.length + 1 <= _; omega
   ·rw [XT q k]; exact Nat.le_add_right _ _
   ·subst hl
    rw [vY q k (c := (xk ts s b.s false a).1) (s1 := (xk ts s b.s false a).2) rfl]
    exact Nat.le_add_right _ _
   ·exact one _ hl k
   ·exact one _ hl k
   ·subst hl
    have h1 := ih x (by simp) (ho.kid x (by simp)) e s
    have h2 := ih y (by simp) (ho.kid y (by simp)) (patS ts a x e s).2.1 (patS ts a x e s).2.2
    have h3 : (Arb.mk b [x, y]).size = 1 + (x.size + y.size) := by rw [size_mk, sizeL_cons, sizeL_cons, sizeL_nil]; omega
    rw [uL (x := x) (y := y) q k (t1 := (patS ts a x e s).1) (e1 := (patS ts a x e s).2.1) (s1 := (patS ts a x e s).2.2) rfl rfl]
    show (patS ts a y (patS ts a x e s).2.1 (patS ts a x e s).2.2).2.1.length <= _; omega
   ·rw [v4 q k]; exact Nat.le_add_right _ _
  ·rw [yp q]; exact Nat.le_add_right _ _
theorem envE_len (g e : List Bnd) : (envE g e).length = g.length + e.length := by unfold envE; rw [List.length_map, List.length_append, List.length_reverse]
theorem W7 {ts : List MType} (T : yh ts) (a : Int) {t : PT} (ho : okP t) (e : List Bnd) {s : IS} (hs : OkS s) (hn : s.code = 0 -> s.nx + 2 * t.size <= 3000000) : OkS (patS ts a t e s).2.2 /\ ((patS ts a t e s).2.2.code = 0 -> s.code = 0 /\ s.nx <= (patS ts a t e s).2.2.nx /\ (patS ts a t e s).2.2.nx <= s.nx + 2 * t.size /\ TyG (patS ts a t e s).2.2.nx (patS ts a t e s).1) := by
 by_cases q : s.code = 0
 ·have hn := hn q
  have G := patG T a t ho e s
  have up := G.up
  have R := G.rl s (Rl.refl s) hs (by omega)
  have key : (patS ts a t e s).2.2.code = 0 -> (patI ts a t e s).2.2.code = 0 /\ (patI ts a t e s).2.2 = (patS ts a t e s).2.2 := fun hz => by
   have h1 : (patI ts a t e s).2.2.code = 0 := by rw [R.1.c]; exact hz
   exact ⟨h1, R.1.e h1⟩
  refine ⟨fun hz => ?_, fun hz => ?_⟩
  ·obtain ⟨h1, h2⟩ := key hz
   rw [<- h2]; exact G.st hs (by omega) h1
  ·obtain ⟨h1, h2⟩ := key hz
   refine ⟨q, by rw [<- h2]; exact G.le, by rw [<- h2]; exact up, ?_⟩
   rw [<- h2, <- (R.2 h1).1]
   exact G.ty hs (by omega) h1
 ·rw [yp q]
  exact ⟨hs, fun hz => absurd hz q⟩
section
variable {ts : List MType} {N : List (List D)}
abbrev wm (ts : List MType) (N : List (List D)) (nodes : List DPNode) (g : List Bnd) (a : Int) (t : PT) (m : Nat) (e : List Bnd) (s : IS) : Prop := FCon Tryz.prog 36 [.opt (sR (ts.map MType.enc) N s), .ag [.sl 4 (nodes.map DPNode.enc)], .s (.int .i64 m), .sl 3 (envE g e), .s (.int .i64 a)] (fun r o => r = .tup [.ag [.sl 3 ((patS ts a t e s).1.map TyI.enc)], .sl 3 (envE g (patS ts a t e s).2.1)] /\ o = [.opt (sR (ts.map MType.enc) N (patS ts a t e s).2.2), .un, .un, .un, .un])
theorem c_patS1 (T : yh ts) (nodes : List DPNode) (hl : nodes.length <= 30000) (g : List Bnd) (a : Int) (b : PI) (l : List PT) (x : PT) (k : b.kind = 4) (hl' : l = [x]) (ih : ∀ (m : Nat), At PI.node nodes m x -> ∀ (e : List Bnd) (s : IS), OkS s -> (s.code = 0 -> s.nx + 2 * x.size <= 3000000) -> g.length + e.length + x.size <= 1000000 -> wm ts N nodes g a x m e s) (m : Nat) (hA : At PI.node nodes m (.mk b l)) (hox : okP x) (ho : okP (.mk b l)) (e : List Bnd) (s : IS) (hs : OkS s) (q : s.code = 0) (hn : s.nx + 2 * (Arb.mk b l).size <= 3000000) (hE : g.length + e.length + (Arb.mk b l).size <= 1000000) : wm ts N nodes g a (.mk b l) m e s := by
 subst hl'
 have hm := hA.lt
 have hx := XW hA
 have he := v6 b (idxs (m + 1) [x])
 have hil := idxs_len (m + 1) [x]
 have hi0 : idxs (m + 1) [x] = [((m + 1 : Nat) : Int)] := rfl
 have hAx := hA.kids.at 0 (by simp)
 have hsz : (Arb.mk b [x]).size = 1 + x.size := by rw [size_mk, sizeL_cons, sizeL_nil]; omega
 have e0 : (s.code != 0) = false := by simp [q]
 have cl := Ux (N := N) T s b.s 1 a (by omega)
 rw [show ((1 : Int) == 1) = true from rfl] at cl
 have LL := ZO T s b.s true a
 have LR := WZ T (s := s) q b.s true a
 have S := Zd T s b.s true a
 have C := Wr T s b.s true a
 rw [k] at he
 rw [hi0] at hx he hil
 unfold wm
 by_cases z : (xk ts s b.s true a).2.code = 0
 ·rw [vZ (x := x) q k (c := (xk ts s b.s true a).1) (s1 := (xk ts s b.s true a).2) rfl z rfl]
  have zi : (conI ts s b.s true a).2.code = 0 := by rw [LR.1.c]; exact z
  obtain ⟨r1, r2, r3⟩ := LR.2 zi
  have es := LR.1.e zi
  obtain ⟨c1, c2⟩ := C.1 r1
  have c2 := c2 rfl
  rw [es] at c1 c2 S
  rw [r3 rfl] at c2
  have up := S.up
  clear LR C r1 r2 r3 es zi c1
  generalize xk ts s b.s true a = Q at *
  obtain ⟨⟨ty, arg⟩, s1⟩ := Q
  dsimp only at *
  have os1 := S.ok hs (by omega)
  have hk := ih (m + 1) hAx e s1 os1 (fun _ => by omega) (by omega)
  obtain ⟨os2, K⟩ := W7 T a hox e os1 (fun _ => by omega)
  have kl := XU T a x hox e s1
  have cd := Zp (T := ts.map MType.enc) (N := N) (patS ts a x e s1).2.2 (patS ts a x e s1).1 arg a os2 (fun hz => by have := (K hz).2.2.1; omega) (fun hz => (K hz).2.2.2) (fun hz => c2.mono (K hz).2.1) (by omega) (by omega)
  unfold wm at hk
  generalize patS ts a x e s1 = R at *
  obtain ⟨t, e2, s2⟩ := R
  dsimp only at *
  have e1 : (s1.code != 0) = false := by simp [z]
  simp only [xB] at cl hk cd ⊢
  refine FI PM Tryz.func36 Tryz.ntmps36 [(9, 10, [1, 3, 9], [(1, 0), (1, 2), (1, 4), (1, 5), (1, 6), (1, 7), (1, 8), (3, 0), (3, 4), (3, 5), (3, 6), (3, 7), (3, 8), (9, 0)], (lin [1, 3, 9] [0, 2, 4, 5, 6, 7, 8, 1, 3, 9])), (15, 14, [8, 12, 13], [(12, 0), (12, 1), (12, 2), (12, 3), (12, 4), (12, 5), (12, 6), (12, 7), (12, 9), (12, 10), (12, 11), (13, 11)], (.fl 0 (.fl 1 (.fl 2 (.fl 3 (.fl 4 (.fl 5 (.fl 6 (.fl 7 (.fx 8 (.fl 9 (.fl 10 (.fl 11 (.fx 12 (.fx 13 .nil .no) .no)))) (.fx 12 (.fx 8 (.fl 9 (.fl 10 (.fl 11 (.fx 13 .nil .no)))) .no) .no))))))))))), (16, 14, [8, 12, 13], [(12, 0), (12, 1), (12, 2), (12, 3), (12, 4), (12, 5), (12, 6), (12, 7), (12, 9), (12, 10), (12, 11), (13, 11)], (.fl 0 (.fl 1 (.fl 2 (.fl 3 (.fl 4 (.fl 5 (.fl 6 (.fl 7 (.fx 8 (.fl 9 (.fl 10 (.fl 11 (.fx 12 (.fx 13 .nil .no) .no)))) (.fx 12 (.fx 8 (.fl 9 (.fl 10 (.fl 11 (.fx 13 .nil .no)))) .no) .no))))))))))), (21, 14, [8, 12, 13], [(12, 0), (12, 1), (12, 2), (12, 3), (12, 4), (12, 5), (12, 6), (12, 7), (12, 9), (12, 10), (12, 11), (13, 11)], (.fl 0 (.fl 1 (.fl 2 (.fl 3 (.fl 4 (.fl 5 (.fl 6 (.fl 7 (.fx 8 (.fl 9 (.fl 10 (.fl 11 (.fx 12 (.fx 13 .nil .no) .no)))) (.fx 12 (.fx 8 (.fl 9 (.fl 10 (.fl 11 (.fx 13 .nil .no)))) .no) .no)))))))))))] rfl rfl ?_
  (have hWf := w6 @e0 @hx @he @hil @e1 @iE_e; repeat' (first | refine zS ?_ | refine zI ?_ ?_ | refine zH cl ?_ | refine zX hk ?_ | ((with_reducible apply xc); refine xg (hk) ?_; rintro _ _ ⟨rfl, rfl⟩) | refine zH cd ?_ | exact zF0 | refine zD fun hb => ?_ | exact zC | refine zT ?_ | fail))
  all_goals first | (show _ = _; rw [nc_sc (d := 20) rfl rfl rfl, W3 (d := 20) (by decide) rfl, nc_cal (d := 20) rfl rfl rfl rfl rfl rfl rfl, zw (d := 20) (by decide) rfl, W4 (d := 20) (by decide) rfl rfl rfl rfl rfl, zw (d := 20) (by decide) rfl, zw (d := 20) (by decide) rfl, zw (d := 20) (by decide) rfl]; done) | trace_state
 ·rw [vC (l := [x]) q k (c := (xk ts s b.s true a).1) (s1 := (xk ts s b.s true a).2) rfl z]
  clear LR C S
  generalize xk ts s b.s true a = Q at *
  obtain ⟨⟨ty, arg⟩, s1⟩ := Q
  dsimp only at *
  have e1 : (s1.code != 0) = true := by simpa using z
  simp only [xB] at cl ⊢
  refine FI PM Tryz.func36 Tryz.ntmps36 [(9, 10, [1, 3, 9], [(1, 0), (1, 2), (1, 4), (1, 5), (1, 6), (1, 7), (1, 8), (3, 0), (3, 4), (3, 5), (3, 6), (3, 7), (3, 8), (9, 0)], (lin [1, 3, 9] [0, 2, 4, 5, 6, 7, 8, 1, 3, 9])), (15, 14, [8, 12, 13], [(12, 0), (12, 1), (12, 2), (12, 3), (12, 4), (12, 5), (12, 6), (12, 7), (12, 9), (12, 10), (12, 11), (13, 11)], (.fl 0 (.fl 1 (.fl 2 (.fl 3 (.fl 4 (.fl 5 (.fl 6 (.fl 7 (.fx 8 (.fl 9 (.fl 10 (.fl 11 (.fx 12 (.fx 13 .nil .no) .no)))) (.fx 12 (.fx 8 (.fl 9 (.fl 10 (.fl 11 (.fx 13 .nil .no)))) .no) .no))))))))))), (16, 14, [8, 12, 13], [(12, 0), (12, 1), (12, 2), (12, 3), (12, 4), (12, 5), (12, 6), (12, 7), (12, 9), (12, 10), (12, 11), (13, 11)], (.fl 0 (.fl 1 (.fl 2 (.fl 3 (.fl 4 (.fl 5 (.fl 6 (.fl 7 (.fx 8 (.fl 9 (.fl 10 (.fl 11 (.fx 12 (.fx 13 .nil .no) .no)))) (.fx 12 (.fx 8 (.fl 9 (.fl 10 (.fl 11 (.fx 13 .nil .no)))) .no) .no))))))))))), (21, 14, [8, 12, 13], [(12, 0), (12, 1), (12, 2), (12, 3), (12, 4), (12, 5), (12, 6), (12, 7), (12, 9), (12, 10), (12, 11), (13, 11)], (.fl 0 (.fl 1 (.fl 2 (.fl 3 (.fl 4 (.fl 5 (.fl 6 (.fl 7 (.fx 8 (.fl 9 (.fl 10 (.fl 11 (.fx 12 (.fx 13 .nil .no) .no)))) (.fx 12 (.fx 8 (.fl 9 (.fl 10 (.fl 11 (.fx 13 .nil .no)))) .no) .no)))))))))))] rfl rfl ?_
  (have hWf := w5 @e0 @hx @he @hil @e1; repeat' (first | refine zS ?_ | refine zI ?_ ?_ | refine zH cl ?_ | exact zF0 | refine zD fun hb => ?_ | exact zC | refine zT ?_ | fail))
theorem c_patS2 (T : yh ts) (nodes : List DPNode) (hl : nodes.length <= 30000) (g : List Bnd) (a : Int) (b : PI) (x y : PT) (k : b.kind = 5) (ihx : ∀ (m : Nat), At PI.node nodes m x -> ∀ (e : List Bnd) (s : IS), OkS s -> (s.code = 0 -> s.nx + 2 * x.size <= 3000000) -> g.length + e.length + x.size <= 1000000 -> wm ts N nodes g a x m e s) (ihy : ∀ (m : Nat), At PI.node nodes m y -> ∀ (e : List Bnd) (s : IS), OkS s -> (s.code = 0 -> s.nx + 2 * y.size <= 3000000) -> g.length + e.length + y.size <= 1000000 -> wm ts N nodes g a y m e s) (m : Nat) (hA : At PI.node nodes m (.mk b [x, y])) (hox : okP x) (hoy : okP y) (e : List Bnd) (s : IS) (hs : OkS s) (q : s.code = 0) (hn : s.nx + 2 * (Arb.mk b [x, y]).size <= 3000000) (hE : g.length + e.length + (Arb.mk b [x, y]).size <= 1000000) : wm ts N nodes g a (.mk b [x, y]) m e s := by
 have hm := hA.lt
 have hx := XW hA
 have he := v6 b (idxs (m + 1) [x, y])
 have hil := idxs_len (m + 1) [x, y]
 have hi0 : idxs (m + 1) [x, y] = [((m + 1 : Nat) : Int), ((m + 1 + x.size : Nat) : Int)] := rfl
 have hAx := hA.kids.at 0 (by simp)
 have hAy := hA.kids.at 1 (by simp)
 have hbd := hA.bd
 have hsz : (Arb.mk b [x, y]).size = 1 + (x.size + y.size) := by rw [size_mk, sizeL_cons, sizeL_cons, sizeL_nil]; omega
 have e0 : (s.code != 0) = false := by simp [q]
 have cx := ihx (m + 1) hAx e s hs (fun _ => by omega) (by omega)
 obtain ⟨os1, K⟩ := W7 T a hox e hs (fun _ => by omega)
 have ev := patS_env (ts := ts) a x hox e s
 have kl := XU T a x hox e s
 have cy := ihy (m + 1 + x.size) (by simpa [sizeL_cons, sizeL_nil] using hAy) (patS ts a x e s).2.1 (patS ts a x e s).2.2 os1 (fun hz => by have := (K hz).2.2.1; omega) (by omega)
 have kl2 := XU T a y hoy (patS ts a x e s).2.1 (patS ts a x e s).2.2
 rw [k] at he
 rw [hi0] at hx he hil
 unfold wm at cx cy ⊢
 rw [uL (x := x) (y := y) q k (t1 := (patS ts a x e s).1) (e1 := (patS ts a x e s).2.1) (s1 := (patS ts a x e s).2.2) rfl rfl]
 generalize patS ts a x e s = R at *
 obtain ⟨t, e1, s1⟩ := R
 dsimp only at *
 generalize patS ts a y e1 s1 = R2 at *
 obtain ⟨u, e2, s2⟩ := R2
 dsimp only at *
 have nm := XC ⟨#[42]⟩ [⟨t⟩, ⟨u⟩] (by simp) (by simp only [List.mem_cons, List.not_mem_nil, or_false]; rintro _ (rfl | rfl) <;> dsimp only <;> omega)
 have nm : FCon Tryz.prog 78 [.s (.string ⟨#[42]⟩), .sl 1 [[.sl 3 (t.map TyI.enc)], [.sl 3 (u.map TyI.enc)]]] (fun r _ => r = .ag [.osl 143 3 ((zp :: (t ++ u)).map TyI.own)]) := by
  have e : z4 ⟨#[42]⟩ [⟨t⟩, ⟨u⟩] = zp :: (t ++ u) := by simp [z4, zp]
  rw [e] at nm
  exact nm
 refine FCon.iceO ?_
 simp only [xB] at cx cy ⊢
 refine FI PM Tryz.func36 Tryz.ntmps36 [(9, 10, [1, 3, 9], [(1, 0), (1, 2), (1, 4), (1, 5), (1, 6), (1, 7), (1, 8), (3, 0), (3, 4), (3, 5), (3, 6), (3, 7), (3, 8), (9, 0)], (lin [1, 3, 9] [0, 2, 4, 5, 6, 7, 8, 1, 3, 9])), (15, 14, [8, 12, 13], [(12, 0), (12, 1), (12, 2), (12, 3), (12, 4), (12, 5), (12, 6), (12, 7), (12, 9), (12, 10), (12, 11), (13, 11)], (.fl 0 (.fl 1 (.fl 2 (.fl 3 (.fl 4 (.fl 5 (.fl 6 (.fl 7 (.fx 8 (.fl 9 (.fl 10 (.fl 11 (.fx 12 (.fx 13 .nil .no) .no)))) (.fx 12 (.fx 8 (.fl 9 (.fl 10 (.fl 11 (.fx 13 .nil .no)))) .no) .no))))))))))), (16, 14, [8, 12, 13], [(12, 0), (12, 1), (12, 2), (12, 3), (12, 4), (12, 5), (12, 6), (12, 7), (12, 9), (12, 10), (12, 11), (13, 11)], (.fl 0 (.fl 1 (.fl 2 (.fl 3 (.fl 4 (.fl 5 (.fl 6 (.fl 7 (.fx 8 (.fl 9 (.fl 10 (.fl 11 (.fx 12 (.fx 13 .nil .no) .no)))) (.fx 12 (.fx 8 (.fl 9 (.fl 10 (.fl 11 (.fx 13 .nil .no)))) .no) .no))))))))))), (21, 14, [8, 12, 13], [(12, 0), (12, 1), (12, 2), (12, 3), (12, 4), (12, 5), (12, 6), (12, 7), (12, 9), (12, 10), (12, 11), (13, 11)], (.fl 0 (.fl 1 (.fl 2 (.fl 3 (.fl 4 (.fl 5 (.fl 6 (.fl 7 (.fx 8 (.fl 9 (.fl 10 (.fl 11 (.fx 12 (.fx 13 .nil .no) .no)))) (.fx 12 (.fx 8 (.fl 9 (.fl 10 (.fl 11 (.fx 13 .nil .no)))) .no) .no)))))))))))] rfl rfl ?_
 (have hWf := w5 @e0 @hx @he @hil @iE_e; repeat' (first | refine zS ?_ | refine zI ?_ ?_ | refine zX cx ?_ | ((with_reducible apply xc); refine xg (cx) ?_; rintro _ _ ⟨rfl, rfl⟩) | refine zX cy ?_ | ((with_reducible apply xc); refine xg (cy) ?_; rintro _ _ ⟨rfl, rfl⟩) | refine zK nm ?_ | exact zF0 | refine zD fun hb => ?_ | exact zC | refine zT ?_ | fail))
 all_goals first | (show _ = _; rw [nc_sc (d := 14) rfl rfl rfl, W3 (d := 14) (by decide) rfl, nc_cal (d := 14) rfl rfl rfl rfl rfl rfl rfl, zw (d := 14) (by decide) rfl, W4 (d := 14) (by decide) rfl rfl rfl rfl rfl, zw (d := 14) (by decide) rfl, zw (d := 14) (by decide) rfl, zw (d := 14) (by decide) rfl]; done) | (show _ = _; rw [nc_sc (d := 16) rfl rfl rfl, W3 (d := 16) (by decide) rfl, nc_cal (d := 16) rfl rfl rfl rfl rfl rfl rfl, zw (d := 16) (by decide) rfl, W4 (d := 16) (by decide) rfl rfl rfl rfl rfl, zw (d := 16) (by decide) rfl, zw (d := 16) (by decide) rfl, zw (d := 16) (by decide) rfl]; done) | exact xD TyI.pure _ _ (zp :: (t ++ u)) | rfl | trace_state
theorem c_patS (T : yh ts) (nodes : List DPNode) (hl : nodes.length <= 30000) (g : List Bnd) (a : Int) : ∀ (t : PT) (m : Nat), At PI.node nodes m t -> okP t -> ∀ (e : List Bnd) (s : IS), OkS s -> (s.code = 0 -> s.nx + 2 * t.size <= 3000000) -> g.length + e.length + t.size <= 1000000 -> wm ts N nodes g a t m e s := fun t => by
 induction t using Arb.ind with
 | h b l ih =>
  intro m hA ho e s hs hn hE
  have hel := envE_len g e
  have hm := hA.lt
  have hx := XW hA
  have he := v6 b (idxs (m + 1) l)
  have hil := idxs_len (m + 1) l
  have hsz := size_mk b l
  unfold wm
  by_cases q : s.code = 0
  ·have e0 : (s.code != 0) = false := by simp [q]
   have hn := hn q
   rcases ho.root with ⟨k, hl', -, -⟩ | ⟨k, hl', -, -⟩ | ⟨k, hl', -, -, -⟩ | ⟨k, hl', -, -⟩ | ⟨c, x, y, k, hl', -, -, -⟩ | ⟨x, k, hl', -, -⟩ | ⟨x, y, k, hl', -, -⟩ | ⟨k, hl', -, -⟩
   ·rw [v5 q k]
    rw [k] at he
    have nw := XD (T := ts.map MType.enc) (N := N) s (by omega)
    simp only [xB] at nw ⊢
    refine FI PM Tryz.func36 Tryz.ntmps36 [(9, 10, [1, 3, 9], [(1, 0), (1, 2), (1, 4), (1, 5), (1, 6), (1, 7), (1, 8), (3, 0), (3, 4), (3, 5), (3, 6), (3, 7), (3, 8), (9, 0)], (lin [1, 3, 9] [0, 2, 4, 5, 6, 7, 8, 1, 3, 9])), (15, 14, [8, 12, 13], [(12, 0), (12, 1), (12, 2), (12, 3), (12, 4), (12, 5), (12, 6), (12, 7), (12, 9), (12, 10), (12, 11), (13, 11)], (.fl 0 (.fl 1 (.fl 2 (.fl 3 (.fl 4 (.fl 5 (.fl 6 (.fl 7 (.fx 8 (.fl 9 (.fl 10 (.fl 11 (.fx 12 (.fx 13 .nil .no) .no)))) (.fx 12 (.fx 8 (.fl 9 (.fl 10 (.fl 11 (.fx 13 .nil .no)))) .no) .no))))))))))), (16, 14, [8, 12, 13], [(12, 0), (12, 1), (12, 2), (12, 3), (12, 4), (12, 5), (12, 6), (12, 7), (12, 9), (12, 10), (12, 11), (13, 11)], (.fl 0 (.fl 1 (.fl 2 (.fl 3 (.fl 4 (.fl 5 (.fl 6 (.fl 7 (.fx 8 (.fl 9 (.fl 10 (.fl 11 (.fx 12 (.fx 13 .nil .no) .no)))) (.fx 12 (.fx 8 (.fl 9 (.fl 10 (.fl 11 (.fx 13 .nil .no)))) .no) .no))))))))))), (21, 14, [8, 12, 13], [(12, 0), (12, 1), (12, 2), (12, 3), (12, 4), (12, 5), (12, 6), (12, 7), (12, 9), (12, 10), (12, 11), (13, 11)], (.fl 0 (.fl 1 (.fl 2 (.fl 3 (.fl 4 (.fl 5 (.fl 6 (.fl 7 (.fx 8 (.fl 9 (.fl 10 (.fl 11 (.fx 12 (.fx 13 .nil .no) .no)))) (.fx 12 (.fx 8 (.fl 9 (.fl 10 (.fl 11 (.fx 13 .nil .no)))) .no) .no)))))))))))] rfl rfl ?_
    (have hWf := w4 @e0 @hx @he @hil; repeat' (first | refine zS ?_ | refine zI ?_ ?_ | refine zH nw ?_ | exact zF0 | refine zD fun hb => ?_ | exact zC | refine zT ?_ | fail))
   ·rw [XV q k, envE_cons]
    rw [k] at he
    have nw := XD (T := ts.map MType.enc) (N := N) s (by omega)
    refine FCon.tupR (a := envE g e ++ [[.s (.string b.s), .sl 3 [(fvI s.nx).enc], .nil]]) (FCon.iceO ?_) ?_
    ·simp only [xB] at nw ⊢
     refine FI PM Tryz.func36 Tryz.ntmps36 [(9, 10, [1, 3, 9], [(1, 0), (1, 2), (1, 4), (1, 5), (1, 6), (1, 7), (1, 8), (3, 0), (3, 4), (3, 5), (3, 6), (3, 7), (3, 8), (9, 0)], (lin [1, 3, 9] [0, 2, 4, 5, 6, 7, 8, 1, 3, 9])), (15, 14, [8, 12, 13], [(12, 0), (12, 1), (12, 2), (12, 3), (12, 4), (12, 5), (12, 6), (12, 7), (12, 9), (12, 10), (12, 11), (13, 11)], (.fl 0 (.fl 1 (.fl 2 (.fl 3 (.fl 4 (.fl 5 (.fl 6 (.fl 7 (.fx 8 (.fl 9 (.fl 10 (.fl 11 (.fx 12 (.fx 13 .nil .no) .no)))) (.fx 12 (.fx 8 (.fl 9 (.fl 10 (.fl 11 (.fx 13 .nil .no)))) .no) .no))))))))))), (16, 14, [8, 12, 13], [(12, 0), (12, 1), (12, 2), (12, 3), (12, 4), (12, 5), (12, 6), (12, 7), (12, 9), (12, 10), (12, 11), (13, 11)], (.fl 0 (.fl 1 (.fl 2 (.fl 3 (.fl 4 (.fl 5 (.fl 6 (.fl 7 (.fx 8 (.fl 9 (.fl 10 (.fl 11 (.fx 12 (.fx 13 .nil .no) .no)))) (.fx 12 (.fx 8 (.fl 9 (.fl 10 (.fl 11 (.fx 13 .nil .no)))) .no) .no))))))))))), (21, 14, [8, 12, 13], [(12, 0), (12, 1), (12, 2), (12, 3), (12, 4), (12, 5), (12, 6), (12, 7), (12, 9), (12, 10), (12, 11), (13, 11)], (.fl 0 (.fl 1 (.fl 2 (.fl 3 (.fl 4 (.fl 5 (.fl 6 (.fl 7 (.fx 8 (.fl 9 (.fl 10 (.fl 11 (.fx 12 (.fx 13 .nil .no) .no)))) (.fx 12 (.fx 8 (.fl 9 (.fl 10 (.fl 11 (.fx 13 .nil .no)))) .no) .no)))))))))))] rfl rfl ?_
     (have hWf := w5 @e0 @hx @he @hil @envE_frz; repeat' (first | refine zS ?_ | refine zI ?_ ?_ | refine zH nw ?_ | exact zF0 | refine zD fun hb => ?_ | exact zC | refine zT ?_ | fail))
     all_goals first | omega | trace_state
    ·exact RW.sl (RWs.app (RWs.cons (Rr.cons (RW.refl _) (Rr.cons (RW.refl _) (Rr.cons (RW.nilS 1) (Rr.refl [])))) (RWs.refl [])))
   ·rw [XT q k]
    rw [k] at he
    have nb := Yp ⟨#[105, 110, 116]⟩
    simp only [xB]
    refine FI PM Tryz.func36 Tryz.ntmps36 [(9, 10, [1, 3, 9], [(1, 0), (1, 2), (1, 4), (1, 5), (1, 6), (1, 7), (1, 8), (3, 0), (3, 4), (3, 5), (3, 6), (3, 7), (3, 8), (9, 0)], (lin [1, 3, 9] [0, 2, 4, 5, 6, 7, 8, 1, 3, 9])), (15, 14, [8, 12, 13], [(12, 0), (12, 1), (12, 2), (12, 3), (12, 4), (12, 5), (12, 6), (12, 7), (12, 9), (12, 10), (12, 11), (13, 11)], (.fl 0 (.fl 1 (.fl 2 (.fl 3 (.fl 4 (.fl 5 (.fl 6 (.fl 7 (.fx 8 (.fl 9 (.fl 10 (.fl 11 (.fx 12 (.fx 13 .nil .no) .no)))) (.fx 12 (.fx 8 (.fl 9 (.fl 10 (.fl 11 (.fx 13 .nil .no)))) .no) .no))))))))))), (16, 14, [8, 12, 13], [(12, 0), (12, 1), (12, 2), (12, 3), (12, 4), (12, 5), (12, 6), (12, 7), (12, 9), (12, 10), (12, 11), (13, 11)], (.fl 0 (.fl 1 (.fl 2 (.fl 3 (.fl 4 (.fl 5 (.fl 6 (.fl 7 (.fx 8 (.fl 9 (.fl 10 (.fl 11 (.fx 12 (.fx 13 .nil .no) .no)))) (.fx 12 (.fx 8 (.fl 9 (.fl 10 (.fl 11 (.fx 13 .nil .no)))) .no) .no))))))))))), (21, 14, [8, 12, 13], [(12, 0), (12, 1), (12, 2), (12, 3), (12, 4), (12, 5), (12, 6), (12, 7), (12, 9), (12, 10), (12, 11), (13, 11)], (.fl 0 (.fl 1 (.fl 2 (.fl 3 (.fl 4 (.fl 5 (.fl 6 (.fl 7 (.fx 8 (.fl 9 (.fl 10 (.fl 11 (.fx 12 (.fx 13 .nil .no) .no)))) (.fx 12 (.fx 8 (.fl 9 (.fl 10 (.fl 11 (.fx 13 .nil .no)))) .no) .no)))))))))))] rfl rfl ?_
    (have hWf := w4 @e0 @hx @he @hil; repeat' (first | refine zS ?_ | refine zI ?_ ?_ | refine zK nb ?_ | exact zF0 | refine zD fun hb => ?_ | exact zC | refine zT ?_ | fail))
    all_goals rfl
   ·subst hl'
    have cl := Ux (N := N) T s b.s 0 a (by omega)
    rw [show ((0 : Int) == 1) = false from rfl] at cl
    rw [vY q k (c := (xk ts s b.s false a).1) (s1 := (xk ts s b.s false a).2) rfl]
    rw [k] at he
    generalize xk ts s b.s false a = Q at *
    obtain ⟨⟨ty, arg⟩, s1⟩ := Q
    dsimp only at *
    simp only [xB] at cl ⊢
    cases z : (s1.code != 0)
    all_goals
     refine FI PM Tryz.func36 Tryz.ntmps36 [(9, 10, [1, 3, 9], [(1, 0), (1, 2), (1, 4), (1, 5), (1, 6), (1, 7), (1, 8), (3, 0), (3, 4), (3, 5), (3, 6), (3, 7), (3, 8), (9, 0)], (lin [1, 3, 9] [0, 2, 4, 5, 6, 7, 8, 1, 3, 9])), (15, 14, [8, 12, 13], [(12, 0), (12, 1), (12, 2), (12, 3), (12, 4), (12, 5), (12, 6), (12, 7), (12, 9), (12, 10), (12, 11), (13, 11)], (.fl 0 (.fl 1 (.fl 2 (.fl 3 (.fl 4 (.fl 5 (.fl 6 (.fl 7 (.fx 8 (.fl 9 (.fl 10 (.fl 11 (.fx 12 (.fx 13 .nil .no) .no)))) (.fx 12 (.fx 8 (.fl 9 (.fl 10 (.fl 11 (.fx 13 .nil .no)))) .no) .no))))))))))), (16, 14, [8, 12, 13], [(12, 0), (12, 1), (12, 2), (12, 3), (12, 4), (12, 5), (12, 6), (12, 7), (12, 9), (12, 10), (12, 11), (13, 11)], (.fl 0 (.fl 1 (.fl 2 (.fl 3 (.fl 4 (.fl 5 (.fl 6 (.fl 7 (.fx 8 (.fl 9 (.fl 10 (.fl 11 (.fx 12 (.fx 13 .nil .no) .no)))) (.fx 12 (.fx 8 (.fl 9 (.fl 10 (.fl 11 (.fx 13 .nil .no)))) .no) .no))))))))))), (21, 14, [8, 12, 13], [(12, 0), (12, 1), (12, 2), (12, 3), (12, 4), (12, 5), (12, 6), (12, 7), (12, 9), (12, 10), (12, 11), (13, 11)], (.fl 0 (.fl 1 (.fl 2 (.fl 3 (.fl 4 (.fl 5 (.fl 6 (.fl 7 (.fx 8 (.fl 9 (.fl 10 (.fl 11 (.fx 12 (.fx 13 .nil .no) .no)))) (.fx 12 (.fx 8 (.fl 9 (.fl 10 (.fl 11 (.fx 13 .nil .no)))) .no) .no)))))))))))] rfl rfl ?_
     (have hWf := w5 @e0 @hx @he @hil @z; repeat' (first | refine zS ?_ | refine zI ?_ ?_ | refine zH cl ?_ | exact zF0 | refine zD fun hb => ?_ | exact zC | refine zT ?_ | fail))
   ·exact c_patS1 T nodes hl g a b l _ k hl' (fun m' h1 e s hs hn hE => ih _ (by rw [hl']; exact List.mem_singleton.2 rfl) m' h1 (ho.kid _ (by rw [hl']; exact List.mem_singleton.2 rfl)) e s hs hn hE) m hA (ho.kid _ (by rw [hl']; exact List.mem_singleton.2 rfl)) ho e s hs q hn hE
   ·exact c_patS1 T nodes hl g a b l _ k hl' (fun m' h1 e s hs hn hE => ih _ (by rw [hl']; exact List.mem_singleton.2 rfl) m' h1 (ho.kid _ (by rw [hl']; exact List.mem_singleton.2 rfl)) e s hs hn hE) m hA (ho.kid _ (by rw [hl']; exact List.mem_singleton.2 rfl)) ho e s hs q hn hE
   ·subst hl'
    exact c_patS2 T nodes hl g a b x y k (fun m' h1 e s hs hn hE => ih x (by simp) m' h1 (ho.kid x (by simp)) e s hs hn hE) (fun m' h1 e s hs hn hE => ih y (by simp) m' h1 (ho.kid y (by simp)) e s hs hn hE) m hA (ho.kid x (by simp)) (ho.kid y (by simp)) e s hs q hn hE
   ·rw [v4 q k]
    rw [k] at he
    have nb := Yp ⟨#[117, 110, 105, 116]⟩
    simp only [xB]
    refine FI PM Tryz.func36 Tryz.ntmps36 [(9, 10, [1, 3, 9], [(1, 0), (1, 2), (1, 4), (1, 5), (1, 6), (1, 7), (1, 8), (3, 0), (3, 4), (3, 5), (3, 6), (3, 7), (3, 8), (9, 0)], (lin [1, 3, 9] [0, 2, 4, 5, 6, 7, 8, 1, 3, 9])), (15, 14, [8, 12, 13], [(12, 0), (12, 1), (12, 2), (12, 3), (12, 4), (12, 5), (12, 6), (12, 7), (12, 9), (12, 10), (12, 11), (13, 11)], (.fl 0 (.fl 1 (.fl 2 (.fl 3 (.fl 4 (.fl 5 (.fl 6 (.fl 7 (.fx 8 (.fl 9 (.fl 10 (.fl 11 (.fx 12 (.fx 13 .nil .no) .no)))) (.fx 12 (.fx 8 (.fl 9 (.fl 10 (.fl 11 (.fx 13 .nil .no)))) .no) .no))))))))))), (16, 14, [8, 12, 13], [(12, 0), (12, 1), (12, 2), (12, 3), (12, 4), (12, 5), (12, 6), (12, 7), (12, 9), (12, 10), (12, 11), (13, 11)], (.fl 0 (.fl 1 (.fl 2 (.fl 3 (.fl 4 (.fl 5 (.fl 6 (.fl 7 (.fx 8 (.fl 9 (.fl 10 (.fl 11 (.fx 12 (.fx 13 .nil .no) .no)))) (.fx 12 (.fx 8 (.fl 9 (.fl 10 (.fl 11 (.fx 13 .nil .no)))) .no) .no))))))))))), (21, 14, [8, 12, 13], [(12, 0), (12, 1), (12, 2), (12, 3), (12, 4), (12, 5), (12, 6), (12, 7), (12, 9), (12, 10), (12, 11), (13, 11)], (.fl 0 (.fl 1 (.fl 2 (.fl 3 (.fl 4 (.fl 5 (.fl 6 (.fl 7 (.fx 8 (.fl 9 (.fl 10 (.fl 11 (.fx 12 (.fx 13 .nil .no) .no)))) (.fx 12 (.fx 8 (.fl 9 (.fl 10 (.fl 11 (.fx 13 .nil .no)))) .no) .no)))))))))))] rfl rfl ?_
    (have hWf := w4 @e0 @hx @he @hil; repeat' (first | refine zS ?_ | refine zI ?_ ?_ | refine zK nb ?_ | exact zF0 | refine zD fun hb => ?_ | exact zC | refine zT ?_ | fail))
    all_goals rfl
  ·have e0 : (s.code != 0) = true := by simpa using q
   rw [yp q]
   refine FCon.tupA ?_
   simp only [xB]
   refine FI PM Tryz.func36 Tryz.ntmps36 [(9, 10, [1, 3, 9], [(1, 0), (1, 2), (1, 4), (1, 5), (1, 6), (1, 7), (1, 8), (3, 0), (3, 4), (3, 5), (3, 6), (3, 7), (3, 8), (9, 0)], (lin [1, 3, 9] [0, 2, 4, 5, 6, 7, 8, 1, 3, 9])), (15, 14, [8, 12, 13], [(12, 0), (12, 1), (12, 2), (12, 3), (12, 4), (12, 5), (12, 6), (12, 7), (12, 9), (12, 10), (12, 11), (13, 11)], (.fl 0 (.fl 1 (.fl 2 (.fl 3 (.fl 4 (.fl 5 (.fl 6 (.fl 7 (.fx 8 (.fl 9 (.fl 10 (.fl 11 (.fx 12 (.fx 13 .nil .no) .no)))) (.fx 12 (.fx 8 (.fl 9 (.fl 10 (.fl 11 (.fx 13 .nil .no)))) .no) .no))))))))))), (16, 14, [8, 12, 13], [(12, 0), (12, 1), (12, 2), (12, 3), (12, 4), (12, 5), (12, 6), (12, 7), (12, 9), (12, 10), (12, 11), (13, 11)], (.fl 0 (.fl 1 (.fl 2 (.fl 3 (.fl 4 (.fl 5 (.fl 6 (.fl 7 (.fx 8 (.fl 9 (.fl 10 (.fl 11 (.fx 12 (.fx 13 .nil .no) .no)))) (.fx 12 (.fx 8 (.fl 9 (.fl 10 (.fl 11 (.fx 13 .nil .no)))) .no) .no))))))))))), (21, 14, [8, 12, 13], [(12, 0), (12, 1), (12, 2), (12, 3), (12, 4), (12, 5), (12, 6), (12, 7), (12, 9), (12, 10), (12, 11), (13, 11)], (.fl 0 (.fl 1 (.fl 2 (.fl 3 (.fl 4 (.fl 5 (.fl 6 (.fl 7 (.fx 8 (.fl 9 (.fl 10 (.fl 11 (.fx 12 (.fx 13 .nil .no) .no)))) (.fx 12 (.fx 8 (.fl 9 (.fl 10 (.fl 11 (.fx 13 .nil .no)))) .no) .no)))))))))))] rfl rfl ?_
   (have hWf := w1 @e0; repeat' (first | refine zS ?_ | refine zI ?_ ?_ | exact zF0 | refine zD fun hb => ?_ | exact zC | refine zT ?_ | fail))
end
end
section
open Go.RowKit
theorem xaq (xs : List TyI) (k : Nat) (h : k < xs.length) : (x0 xs).take (k + 1) = (x0 xs).take k ++ [x9 (xm xs) xs[k]] := by
 unfold x0
 rw [List.take_succ_eq_append_getElem (by rw [List.length_map]; exact h), List.getElem_map]
theorem seen_get {l : List Int} {j : Nat} (h : j < l.length) : (l.map iE).getD j [] = [.s (.int .i64 l[j])] := xb iE l j h
theorem xai (xs : List TyI) (hl : xs.length <= 1000000) : FCon Tryz.prog 38 [.ag [.sl 3 (xs.map TyI.enc)]] (fun r _ => r = .ag [.osl 143 3 ((x0 xs).map TyI.own)]) := by
 have hcl := canonM_len' xs
 refine FI PM Tryz.func38 Tryz.ntmps38 [(8, 11, [], [], (lin [] [0, 1, 2, 3, 4, 5, 6, 7, 8, 9, 10]))] rfl rfl ?_
 (have hWf := f0; repeat' (first | refine zS ?_ | refine zI ?_ ?_ | exact zF0 | refine zD fun hb => ?_ | exact zC | refine zT ?_ | fail))
 refine uE (Yb 4 0 777 (row := [.nil]) 143 3 (by simp only [go_sem, simprocAttr]) rfl (by decide) rfl (xj ?_))
 simp only [go_sem, simprocAttr]
 refine xd (fun n σ => ∃ k : Nat, k <= xs.length /\ n = xs.length - k /\ σ.t 1 = .bx 1 0 /\ σ.b 1 = some (.box [.sl 3 (xs.map TyI.enc)]) /\ σ.t 2 = .bx 2 0 /\ σ.b 2 = some (.box [.nil]) /\ σ.t 3 = .bs 8 1 (xm (xs.take k)).length /\ σ.b 8 = some (.arr 3 1 ((xm (xs.take k)).map iE)) /\ σ.t 4 = .bx 4 0 /\ σ.b 4 = some (.box [.bs 777 3 k]) /\ σ.b 777 = some (.arr 143 3 (((x0 xs).take k).map TyI.own)) /\ σ.t 11 = .sl 3 (xs.map TyI.enc) /\ σ.t 12 = .s (.int .i64 xs.length) /\ σ.t 13 = .s (.int .i64 k)) xs.length ⟨0, by omega, by omega, ?_⟩ ?_
 ·simp only [go_sem, simprocAttr, Int.natCast_zero, List.take_zero]
  exact ⟨rfl, rfl⟩
 ·rintro n σ ⟨k, hk, rfl, h1, b1, h2, b2, h3, b3, h4, b4, b7, h11, h12, h13⟩ K' hK
  by_cases hlt : k < xs.length
  ·have hx := xb TyI.enc xs k hlt
   have he := TyI.enc_eq xs[k]
   have hct := xaq xs k hlt
   have hvt := ud xs k hlt
   have hco := xap xs k hlt
   have hvl := Xc xs k hk
   have htl : ((x0 xs).take k).length = k := by rw [List.length_take, hcl]; omega
   generalize hA : xm (xs.take k) = A at *
   generalize hB : (x0 xs).take k = B at *
   generalize hxk : xs[k] = x at *
   cases hvb : varB x with
   | false =>
    have e1 : (x.name.toList == []) = false := by unfold varB at hvb; simpa using hvb
    have hst : xM A x = A := ue (fun q => by rw [hvb] at q; cases q)
    (have hWf := w10 @h1 @b1 @h2 @b2 @h3 @b3 @h4 @b4 @b7 (ai @h11 <| ai @h12 <| ai @h13 <| ai @hx <| ai @he <| ai @e1 <| ai @lit0 <| @htl); repeat' (first | refine zS ?_ | refine zI ?_ ?_ | exact zF0 | refine zD fun hb => ?_ | exact zC | refine zT ?_ | fail))
    refine hK (xs.length - (k + 1)) _ (by omega) ⟨k + 1, by omega, rfl, ?_⟩
    simp only [go_sem, simprocAttr, h1, b1, h2, b2, h3, b3, h4, b4, b7, h11, h12, h13, Int.natCast_succ, hvt, hst, hct, List.map_append]
    rw [xan _ hvb]; rfl
   | true =>
    have e1 : (x.name.toList == []) = true := by unfold varB at hvb; simpa using hvb
    (have hWf := w10 @h1 @b1 @h2 @b2 @h3 @b3 @h4 @b4 @b7 (ai @h11 <| ai @h12 <| ai @h13 <| ai @hx <| ai @he <| ai @e1 <| ai @lit0 <| @htl); repeat' (first | refine zS ?_ | refine zI ?_ ?_ | exact zF0 | refine zD fun hb => ?_ | exact zC | refine zT ?_ | fail))
    refine xd (fun n σ => ∃ j : Nat, j <= A.length /\ n = A.length - j /\ (∀ i (h : i < A.length), i < j -> A[i] ≠ x.v) /\ σ.t 1 = .bx 1 0 /\ σ.b 1 = some (.box [.sl 3 (xs.map TyI.enc)]) /\ σ.t 2 = .bx 2 0 /\ σ.b 2 = some (.box [.nil]) /\ σ.t 3 = .bs 8 1 A.length /\ σ.b 8 = some (.arr 3 1 (A.map iE)) /\ σ.t 4 = .bx 4 0 /\ σ.b 4 = some (.box [.bs 777 3 k]) /\ σ.b 777 = some (.arr 143 3 (B.map TyI.own)) /\ σ.t 11 = .sl 3 (xs.map TyI.enc) /\ σ.t 12 = .s (.int .i64 xs.length) /\ σ.t 13 = .s (.int .i64 k) /\ σ.t 6 = .bx 6 0 /\ σ.b 6 = some (.box [.s (.int .i64 x.v), .s (.string x.name), .s (.int .i64 x.ar)]) /\ σ.t 7 = .s (.int .i64 j)) A.length ⟨0, by omega, by omega, fun i _ h => absurd h (Nat.not_lt_zero _), ?_⟩ ?_
    ·simp only [go_sem, simprocAttr, h1, b1, h2, b2, h3, b3, h4, b4, b7, h11, h12, h13, Int.natCast_zero]
     all_goals trace_state
    ·rintro n σ ⟨j, hj, rfl, hno, g1, c1, g2, c2, g3, c3, g4, c4, c7, g11, g12, g13, g6, c6, g7⟩ K'' hK''
     by_cases hlj : j < A.length
     ·have hy := seen_get hlj
      by_cases hv : A[j] = x.v
      ·have e2 : (A[j] == x.v) = true := by simpa using hv
       have e3 : ((j : Int) == (A.length : Int)) = false := by simp; omega
       have hi : idxN A x.v = j := idxN_at A x.v j hlj hv fun i hi => hno i (by omega) hi
       have hm : x.v ∈ A := hv ▸ List.getElem_mem hlj
       have hst : xM A x = A := ue (fun _ => hm)
       have hcs : x9 (xm xs) x = ⟨(j : Nat), x.name, x.ar⟩ := by rw [hco, hvt, QW hvb hm, hi]
       (have hWf := w10 @g1 @c1 @g2 @c2 @g3 @c3 @g4 @c4 @c7 (ai @g11 <| ai @g12 <| ai @g13 <| ai @g6 <| ai @c6 <| ai @g7 <| ai @hy <| ai @e2 <| ai @e3 <| @htl); repeat' (first | refine zS ?_ | refine zI ?_ ?_ | exact zF0 | refine zD fun hb => ?_ | exact zC | refine zT ?_ | fail))
       refine hK (xs.length - (k + 1)) _ (by omega) ⟨k + 1, by omega, rfl, ?_⟩
       simp only [go_sem, simprocAttr, g1, c1, g2, c2, g3, c3, g4, c4, c7, g11, g12, g13, g6, c6, g7, Int.natCast_succ, hvt, hst, hct, hcs, List.map_append]
       rfl
      ·have e2 : (A[j] == x.v) = false := by simpa using hv
       (have hWf := w10 @g1 @c1 @g2 @c2 @g3 @c3 @g4 @c4 @c7 (ai @g11 <| ai @g12 <| ai @g13 <| ai @g6 <| ai @c6 <| ai @g7 <| ai @hy <| ai @e2 <| @htl); repeat' (first | refine zS ?_ | refine zI ?_ ?_ | exact zF0 | refine zD fun hb => ?_ | exact zC | refine zT ?_ | fail))
       refine hK'' (A.length - (j + 1)) _ (by omega) ⟨j + 1, by omega, rfl, fun i h hi => ?_, ?_⟩
       ·rcases Nat.lt_or_ge i j with q | q
        ·exact hno i h q
        ·obtain rfl : i = j := by omega
         exact hv
       ·simp only [go_sem, simprocAttr, g1, c1, g2, c2, g3, c3, g4, c4, c7, g11, g12, g13, g6, c6, g7, Int.natCast_succ]
        all_goals trace_state
     ·obtain rfl : j = A.length := by omega
      have hm : x.v ∉ A := fun q => by
       obtain ⟨i, hi, e⟩ := List.getElem_of_mem q
       exact hno i hi hi e
      have hst : xM A x = A ++ [x.v] := vJ hvb hm
      have hcs : x9 (xm xs) x = ⟨(A.length : Nat), x.name, x.ar⟩ := by rw [hco, hvt, xao hvb hm]
      have hdl : decide (((A.length : Nat) : Int) < (A.length : Nat)) = false := by simp
      have hx0 : (A.map iE).getD A.length [] = [] := by rw [List.getD_eq_getElem?_getD, List.getElem?_eq_none (by rw [List.length_map]; omega)]; rfl
      (have hWf := w10 @g1 @c1 @g2 @c2 @g3 @c3 @g4 @c4 @c7 (ai @g11 <| ai @g12 <| ai @g13 <| ai @g6 <| ai @c6 <| ai @g7 <| ai @hdl <| ai @hx0 <| @htl); repeat' (first | refine zS ?_ | refine zI ?_ ?_ | exact zF0 | refine zD fun hb => ?_ | exact zC | refine zT ?_ | fail))
      refine hK (xs.length - (k + 1)) _ (by omega) ⟨k + 1, by omega, rfl, ?_⟩
      simp only [go_sem, simprocAttr, g1, c1, g2, c2, g3, c3, g4, c4, c7, g11, g12, g13, g6, c6, g7, Int.natCast_succ, hvt, hst, hct, hcs, List.map_append, List.length_append]
      exact ⟨rfl, rfl⟩
  ·obtain rfl : k = xs.length := by omega
   have htk : (x0 xs).take xs.length = x0 xs := by rw [<- hcl, List.take_length]
   rw [htk] at b7
   (have hWf := w10 @h1 @b1 @h2 @b2 @h3 @b3 @h4 @b4 @b7 (ai @h11 <| ai @h12 <| ai @h13 <| @hcl); repeat' (first | refine zS ?_ | refine zI ?_ ?_ | exact zF0 | refine zD fun hb => ?_ | exact zC | refine zT ?_ | fail))
   all_goals trace_state
end
section
open Go.RowKit Arb
theorem VR (p : MProgram) (ho : p.ok) (hs : p.sm) (hp : x4 p = false) : FCon Tryz.prog 34 [.ag p.enc] (fun r _ => r = .tup [.s (.int .i64 1), .s (.int .i64 0)]) := by
 have hc := vT p ho hs
 rw [hp, MProgram.enc_eq] at hc
 rw [MProgram.enc_eq]
 refine FI PM Tryz.func34 Tryz.ntmps34 [(10, 8, [], [], (lin [] [0, 1, 2, 3, 4, 5, 6, 7]))] rfl rfl ?_
 (have hWf := f0; repeat' (first | refine zS ?_ | refine zI ?_ ?_ | refine zK hc ?_ | exact zF0 | refine zD fun hb => ?_ | exact zC | refine zT ?_ | fail))
theorem Yr (p : MProgram) (ho : p.ok) (hs : p.sm) : FCon Tryz.prog 34 [.ag p.enc] (fun r _ => ∃ z i : Int, r = .tup [.s (.int .i64 z), .s (.int .i64 i)] /\ (z = 0 ↔ x4 p = true /\ AllI p.types)) := by
 cases hp : x4 p with
 | true => exact (QT p ho hs hp).mono fun r o ⟨z, i, h1, h2⟩ => ⟨z, i, h1, by rw [h2, all_IR hp]; simp⟩
 | false => exact (VR p ho hs hp).mono fun r o h => ⟨1, 0, h, by simp⟩
theorem toldM_rl {s s' : IS} {t t' : List TyI} (h : Rl s s') (ht : s.code = 0 -> t = t') : yK s t = yK s' t' := by
 unfold yK
 by_cases q : s.code = 0
 ·obtain rfl := h.e q
  rw [ht q]
 ·rw [if_pos q, if_pos (by rw [<- h.c]; exact q), h.c]
theorem FCon.tupA1 {P : Program} {f : FuncId} {args : List D} {k : Nat} {c : D} (h : FCon P f args (fun r _ => r = .tup [.ag [.nil], c])) : FCon P f args (fun r _ => r = .tup [.ag [.sl k []], c]) := (FCon.tupA (FCon.noout h)).mono fun r o q => q.1
theorem WO (p : MProgram) (l : List MPat) (ho : p.ok) (hs : p.sm) (hol : ∀ q ∈ l, q.ok) (hsl : smS MPat.sm l) (h : ¬ Yg p l) : FCon Tryz.prog 10 [.ag p.enc, .sl 1 (l.map MPat.enc)] (fun r _ => r = .tup [.ag [.sl 3 []], .s (.int .i64 1)]) := by
 have hl := hsl.1
 have hck := Yr p ho hs
 refine FCon.tupA1 ?_
 rw [MProgram.enc_eq] at hck ⊢
 refine FI PM Tryz.func10 Tryz.ntmps10 [(21, 6, [5], [(5, 1), (5, 2), (5, 3), (5, 4)], (lin [5] [0, 1, 2, 3, 4, 5])), (22, 5, [], [], (lin [] [0, 1, 2, 3, 4]))] rfl rfl ?_
 iterate 2 (refine xj ?_; simp only [go_sem, simprocAttr]; (have hWf := f0; repeat' (first | refine zY ?_ | refine zI ?_ ?_ | ((with_reducible apply xc); refine xg (hck) ?_; rintro _ _ ⟨z, i, rfl, hz⟩) | refine zU hck ?_ | exact zF1 | refine zD fun hb => ?_ | exact zC | refine zT ?_ | fail)))
 by_cases hz0 : z = 0
 ·obtain ⟨hp, hA⟩ := hz.1 hz0
  subst hz0
  cases he : l.isEmpty with
  | true =>
   obtain rfl := List.isEmpty_iff.1 he
   (have hWf := f0; repeat' (first | refine zS ?_ | refine zI ?_ ?_ | exact zF0 | refine zD fun hb => ?_ | exact zC | refine zT ?_ | fail))
  | false =>
   have hne : l ≠ [] := fun e => by rw [e] at he; cases he
   have hpos := List.length_pos_iff.2 hne
   have e1 : ((l.length : Int) == 0) = false := by rw [beq_eq_false_iff_ne]; omega
   (have hWf := w1 @e1; repeat' (first | refine zS ?_ | refine zI ?_ ?_ | exact zF0 | refine zD fun hb => ?_ | exact zC | refine zT ?_ | fail))
   refine xd (fun n σ => ∃ k : Nat, k <= l.length /\ n = l.length - k /\ (∀ i (hi : i < l.length), i < k -> patM l[i].nodes = true) /\ σ.t 4 = .bx 4 0 /\ σ.b 4 = some (.box [.nil]) /\ σ.t 29 = .sl 1 (l.map MPat.enc) /\ σ.t 30 = .s (.int .i64 l.length) /\ σ.t 31 = .s (.int .i64 k)) l.length ⟨0, by omega, by omega, fun i _ q => absurd q (Nat.not_lt_zero _), ?_⟩ ?_
   ·simp only [go_sem, simprocAttr, Int.natCast_zero]
    done
   ·rintro n σ ⟨k, hk, rfl, hall, h4, b4, h29, h30, h31⟩ K' hK
    by_cases hlt : k < l.length
    ·have hmem := List.getElem_mem hlt
     have hx := xb MPat.enc l k hlt
     have he2 := MPat.enc_eq l[k]
     have hc := Xg l[k].nodes (hol _ hmem) (hsl.2 _ hmem)
     cases hb1 : patM l[k].nodes with
     | true =>
      rw [hb1] at hc
      (have hWf := w7 @h4 @b4 @h29 @h30 @h31 @hx @he2; repeat' (first | refine zS ?_ | refine zI ?_ ?_ | refine zK hc ?_ | exact zF0 | refine zD fun hb => ?_ | exact zC | refine zT ?_ | fail))
      refine hK (l.length - (k + 1)) _ (by omega) ⟨k + 1, by omega, rfl, fun i hi q => ?_, ?_⟩
      ·rcases Nat.lt_or_ge i k with w | w
       ·exact hall i hi w
       ·obtain rfl : i = k := by omega
        exact hb1
      ·simp only [go_sem, simprocAttr, h4, b4, h29, h30, h31, Int.natCast_succ]
       done
     | false =>
      rw [hb1] at hc
      (have hWf := w7 @h4 @b4 @h29 @h30 @h31 @hx @he2; repeat' (first | refine zS ?_ | refine zI ?_ ?_ | refine zK hc ?_ | exact zF0 | refine zD fun hb => ?_ | exact zC | refine zT ?_ | fail))
    ·obtain rfl : k = l.length := by omega
     exfalso
     refine h ⟨hp, hA, hne, fun q hq => ?_⟩
     obtain ⟨i, hi, rfl⟩ := List.getElem_of_mem hq
     exact hall i hi hi
 ·have e0 : (z != 0) = true := by simpa using hz0
  (have hWf := w1 @e0; repeat' (first | refine zS ?_ | refine zI ?_ ?_ | exact zF0 | refine zD fun hb => ?_ | exact zC | refine zT ?_ | fail))
theorem QR (xs : List TyI) (hl : xs.length <= 1000000) : FCon Tryz.prog 38 [.ag [.sl 3 (xs.map TyI.enc)]] (fun r _ => r = .ag [.sl 3 ((x0 xs).map TyI.enc)]) := FCon.ice ((xai xs hl).mono fun r o e => by
 subst e; simp only [frA, frzL, frz, TyI.frzS])
theorem FCon.tyOr {P : Program} {f : FuncId} {args : List D} {xs : List TyI} {c : D} (h : FCon P f args (fun r _ => r = .tup [.ag [.sl 3 (xs.map TyI.enc)], c] \/ (xs = [] /\ r = .tup [.ag [.nil], c]))) : FCon P f args (fun r _ => r = .tup [.ag [.sl 3 (xs.map TyI.enc)], c]) := h.wk fun r o q => by
 rcases q with rfl | ⟨rfl, rfl⟩
 ·exact ⟨_, rfl, fun g w v hv => hv⟩
 ·exact ⟨_, rfl, fun g w v hv => Xw (xs := [.ag [.nil], c]) (xs' := [.ag [.sl 3 []], c]) rfl (fun m x x' hx hx' u hu => by
   match m, hx, hx' with
   | 0, hx, hx' => exact rn_nw (.inr (.inr ⟨(Option.some.inj hx).symm, 3, (Option.some.inj hx').symm⟩)) hu
   | 1, hx, hx' => rw [<- Option.some.inj hx']; rw [<- Option.some.inj hx] at hu; exact hu
   | m + 2, hx, hx' => simp at hx) hv⟩
def firS : Option (List TyI) -> D
 | none => .nil
 | some t => .sl 3 (t.map TyI.enc)
theorem firS_none : firS none = .nil := rfl
theorem wD (t : List TyI) : firS (some t) = .sl 3 (t.map TyI.enc) := rfl
theorem xay {ts : List MType} {q : PT} {r : List PT} {s s1 : IS} {ty : List TyI} {e1 : List Bnd} (e : patS ts 0 q [] s = (ty, e1, s1)) : yf ts (q :: r) none s = yf ts r (some ty) s1 := by rw [yf, e]
theorem xaz {ts : List MType} {q : PT} {r : List PT} {s s1 : IS} {t0 ty : List TyI} {e1 : List Bnd} (e : patS ts 0 q [] s = (ty, e1, s1)) : yf ts (q :: r) (some t0) s = yf ts r (some t0) (yr s1 t0 ty 0) := by rw [yf, e]
theorem sameS_ok {s : IS} {x y : List TyI} (a : Int) (hs : OkS s) (hn : s.code = 0 -> s.nx <= 3000000) (hx : s.code = 0 -> TyG s.nx x) (hy : s.code = 0 -> TyG s.nx y) : OkS (yr s x y a) /\ ((yr s x y a).code = 0 -> s.code = 0 /\ (yr s x y a).nx = s.nx) := by
 by_cases q : s.code = 0
 ·have R := Zb (Rl.refl s) hs (hn q) (x := x) (y := y) (x' := x) (y' := y) (fun h => ⟨hx h, rfl⟩) (fun h => ⟨hy h, rfl⟩) a
  have P := (X5 a hs (hn q) hx hy).ok hs (by rw [vF]; exact hn q)
  have key : (yr s x y a).code = 0 -> xy s x y a = yr s x y a := fun hz => R.e (by rw [R.c]; exact hz)
  exact ⟨fun hz => by rw [<- key hz]; exact P (by rw [key hz]; exact hz), fun hz => ⟨q, by rw [<- key hz, vF]⟩⟩
 ·rw [ub q]; exact ⟨hs, fun h => absurd h q⟩
theorem patS_nil {ts : List MType} {N : List (List D)} {nodes : List DPNode} {t : PT} {m : Nat} {s : IS} (h : wm ts N nodes [] 0 t m [] s) : FCon Tryz.prog 36 [.opt (sR (ts.map MType.enc) N s), .ag [.sl 4 (nodes.map DPNode.enc)], .s (.int .i64 m), .nil, .s (.int .i64 0)] (fun r o => r = .tup [.ag [.sl 3 ((patS ts 0 t [] s).1.map TyI.enc)], .sl 3 (envE [] (patS ts 0 t [] s).2.1)] /\ o = [.opt (sR (ts.map MType.enc) N (patS ts 0 t [] s).2.2), .un, .un, .un, .un]) := by
 unfold wm at h
 exact h.arg _ rfl fun j d' d h1 h2 g w u hu => by
  match j, h1, h2 with
  | 0, h1, h2 => rw [<- Option.some.inj h2, Option.some.inj h1]; exact hu
  | 1, h1, h2 => rw [<- Option.some.inj h2, Option.some.inj h1]; exact hu
  | 2, h1, h2 => rw [<- Option.some.inj h2, Option.some.inj h1]; exact hu
  | 3, h1, h2 =>
   rw [<- Option.some.inj h2]; rw [<- Option.some.inj h1] at hu
   exact RA_nilS hu
  | 4, h1, h2 => rw [<- Option.some.inj h2, Option.some.inj h1]; exact hu
  | j + 5, h1, h2 => simp at h1
theorem Vs (p : MProgram) (l : List MPat) (ho : p.ok) (hs : p.sm) (hol : ∀ q ∈ l, q.ok) (hsl : smS MPat.sm l) (hsz : cnts (fun q : MPat => q.nodes.length) l <= 1048576) (h : Yg p l) : FCon Tryz.prog 10 [.ag p.enc, .sl 1 (l.map MPat.enc)] (fun r _ => r = .tup [.ag [.sl 3 ((wW p l).1.map TyI.enc)], .s (.int .i64 (wW p l).2)]) := by
 have hl := hsl.1
 have hck := Yr p ho hs
 have T := YK h.prog
 have hpos := List.length_pos_iff.2 h.ne
 have e1 : ((l.length : Int) == 0) = false := by rw [beq_eq_false_iff_ne]; omega
 have hts := Z8 h.pats
 have hok := Z7 h.pats
 have G0 := patsG T (l.map xz) hok none is0
 have R0 := G0.rl is0 (Rl.refl _) vz (by show 0 + 2 * _ <= _; omega) nofun
 have hRR : wW p l = yK (yf p.types (l.map xz) none is0).2 (yf p.types (l.map xz) none is0).1 := toldM_rl R0.1 R0.2
 have hG1 := G0.ok vz (by show 0 + 2 * _ <= _; omega) nofun
 have hG2 := G0.ty vz (by show 0 + 2 * _ <= _; omega) (fun _ e => h.ne (List.map_eq_nil_iff.1 e)) nofun
 have hG3 := G0.len nofun (fun q hq => by obtain ⟨x, hx, rfl⟩ := List.mem_map.1 hq; exact (vI (h.pats x hx)).sz)
 have hG4 := G0.up
 rw [hRR]
 rw [MProgram.enc_eq] at hck ⊢
 refine FCon.tyOr ?_
 refine FI PM Tryz.func10 Tryz.ntmps10 [(21, 6, [5], [(5, 1), (5, 2), (5, 3), (5, 4)], (lin [5] [0, 1, 2, 3, 4, 5])), (22, 5, [], [], (lin [] [0, 1, 2, 3, 4]))] rfl rfl ?_
 iterate 2 (refine xj ?_; simp only [go_sem, simprocAttr]; (have hWf := f0; repeat' (first | refine zY ?_ | refine zI ?_ ?_ | ((with_reducible apply xc); refine xg (hck) ?_; rintro _ _ ⟨z, i, rfl, hz⟩) | refine zU hck ?_ | exact zF1 | refine zD fun hb => ?_ | exact zC | refine zT ?_ | fail)))
 obtain rfl : z = 0 := hz.2 ⟨h.prog, h.chk⟩
 (have hWf := w1 @e1; repeat' (first | refine zS ?_ | refine zI ?_ ?_ | exact zF0 | refine zD fun hb => ?_ | exact zC | refine zT ?_ | fail))
 refine xd (fun n σ => ∃ k : Nat, k <= l.length /\ n = l.length - k /\ σ.t 1 = .sl 1 (l.map MPat.enc) /\ σ.t 2 = .bx 2 0 /\ σ.b 2 = some (.box [.sl 3 (p.types.map MType.enc), .sl 6 (p.nodes.map MNode.enc)]) /\ σ.t 4 = .bx 4 0 /\ σ.b 4 = some (.box [.nil]) /\ σ.t 29 = .sl 1 (l.map MPat.enc) /\ σ.t 30 = .s (.int .i64 l.length) /\ σ.t 31 = .s (.int .i64 k)) l.length ⟨0, by omega, by omega, ?_⟩ ?_
 ·simp only [go_sem, simprocAttr, Int.natCast_zero]
  done
 ·rintro n σ ⟨k, hk, rfl, h1, h2, b2, h4, b4, h29, h30, h31⟩ K' hK
  by_cases hlt : k < l.length
  ·have hmem := List.getElem_mem hlt
   have hx := xb MPat.enc l k hlt
   have he2 := MPat.enc_eq l[k]
   have hc := Xg l[k].nodes (hol _ hmem) (hsl.2 _ hmem)
   rw [h.pats _ hmem] at hc
   (have hWf := w10 @h1 @h2 @b2 @h4 @b4 @h29 @h30 @h31 @hx @he2; repeat' (first | refine zS ?_ | refine zI ?_ ?_ | refine zK hc ?_ | exact zF0 | refine zD fun hb => ?_ | exact zC | refine zT ?_ | fail))
   refine hK (l.length - (k + 1)) _ (by omega) ⟨k + 1, by omega, rfl, ?_⟩
   simp only [go_sem, simprocAttr, h1, h2, b2, h4, b4, h29, h30, h31, Int.natCast_succ]
   done
  ·obtain rfl : k = l.length := by omega
   clear hK
   (have hWf := w8 @h1 @h2 @b2 @h4 @b4 @h29 @h30 @h31; repeat' (first | refine zS ?_ | refine zI ?_ ?_ | exact zF0 | refine zD fun hb => ?_ | exact zC | refine zT ?_ | fail))
   refine uE (Yb 42 2 777 (row := [.sl 3 (p.types.map MType.enc), .sl 6 (p.nodes.map MNode.enc), .nil, .s (.int .i64 0), .s (.int .i64 0), .s (.int .i64 0)]) 160 2 (by simp only [go_sem, simprocAttr]) rfl (by decide) rfl (yS 777 (.arr 160 2 []) (by simp only [go_sem, simprocAttr]) rfl (xj ?_)))
   simp only [go_sem, simprocAttr, h1]
   refine xd (fun n σ => ∃ (k : Nat) (f : Option (List TyI)) (s : IS), k <= l.length /\ n = l.length - k /\ (f = none ↔ k = 0) /\ OkS s /\ (s.code = 0 -> s.nx + 2 * sizeL ((l.drop k).map xz) <= 3000000 /\ ∀ t, f = some t -> TyG s.nx t) /\ (∀ t, f = some t -> t.length <= 1800) /\ yf p.types ((l.drop k).map xz) f s = yf p.types (l.map xz) none is0 /\ σ.t 4 = .bx 4 0 /\ σ.b 4 = some (.box [.nil]) /\ σ.t 10 = .bx 42 0 /\ σ.b 42 = some (.box [.sl 3 (p.types.map MType.enc), .sl 6 (p.nodes.map MNode.enc), .sl 2 (s.l.map SubM.enc), .s (.int .i64 s.nx), .s (.int .i64 s.code), .s (.int .i64 s.at_)]) /\ σ.t 11 = .bx 11 0 /\ σ.b 11 = some (.box [firS f]) /\ σ.t 44 = .sl 1 (l.map MPat.enc) /\ σ.t 45 = .s (.int .i64 l.length) /\ σ.t 46 = .s (.int .i64 k)) l.length ⟨0, none, is0, by omega, by omega, by simp, vz, fun _ => ⟨by show 0 + 2 * _ <= _; rw [List.drop_zero]; omega, nofun⟩, nofun, by rw [List.drop_zero], ?_⟩ ?_
   ·simp only [go_sem, simprocAttr, h1, h2, b2, h4, b4, h29, h30, h31, Int.natCast_zero]
    exact ⟨rfl, rfl⟩
   ·rintro n σ ⟨k, f, s, hk, rfl, hfk, hs0, hcf, hfl, hrun, h4, b4, h10, b42, h11, b11, h44, h45, h46⟩ K' hK
    by_cases hlt : k < l.length
    ·have hmem := List.getElem_mem hlt
     have hq := h.pats _ hmem
     have hx := xb MPat.enc l k hlt
     have he := MPat.enc_eq l[k]
     have hT := vI hq
     have hdr : (l.drop k).map xz = xz l[k] :: (l.drop (k + 1)).map xz := by rw [List.drop_eq_getElem_cons hlt, List.map_cons]
     rw [hdr, sizeL_cons] at hcf
     rw [hdr] at hrun
     have hq6 := (Qs hq).2
     have hsz6 := hT.sz
     have cp := patS_nil (c_patS (N := p.nodes.map MNode.enc) T l[k].nodes (by omega) [] 0 (xz l[k]) 0 hT.at0 hT.ok [] s hs0 (fun hc => by have := (hcf hc).1; omega) (by simp; omega))
     obtain ⟨ok1, K1⟩ := W7 T 0 hT.ok [] hs0 (fun hc => by have := (hcf hc).1; omega)
     have kl := XU T 0 (xz l[k]) hT.ok [] s
     clear hq hT
     generalize l[k] = q at *
     generalize hP : patS p.types 0 (xz q) [] s = P at *
     obtain ⟨ty, e1', s1⟩ := P
     dsimp only at cp ok1 K1 kl
     cases f with
     | none =>
      obtain rfl : k = 0 := hfk.1 rfl
      rw [Nat.zero_add] at hcf hrun
      have hstep := xay (r := (l.drop 1).map xz) hP
      simp only [xB] at cp
      (have hWf := w10 @h4 @b4 @h10 @b42 @h11 @b11 @h44 @h45 @h46 (ai @hx <| ai @he <| @firS_none); repeat' (first | refine zS ?_ | refine zI ?_ ?_ | refine zH cp ?_ | exact zF0 | refine zD fun hb => ?_ | exact zC | refine zT ?_ | fail))
      refine hK (l.length - 1) _ (by omega) ⟨1, some ty, s1, by omega, rfl, by simp, ok1, fun hc => ⟨by have := (K1 hc).2.2.1; have := (hcf (K1 hc).1).1; omega, fun t e => by injection e with e; subst e; exact (K1 hc).2.2.2⟩, fun t e => by injection e with e; subst e; omega, by rw [<- hrun, hstep], ?_⟩
      simp only [go_sem, simprocAttr, h4, b4, h10, b42, h11, b11, h44, h45, h46, wD]
      all_goals trace_state
     | some t0 =>
      have hk0 : k ≠ 0 := fun e => by have := hfk.2 e; cases this
      have ek : ((k : Int) == 0) = false := by rw [beq_eq_false_iff_ne]; omega
      have hstep := xaz (r := (l.drop (k + 1)).map xz) (t0 := t0) hP
      have t0l := hfl t0 rfl
      have t0G : s1.code = 0 -> TyG s1.nx t0 := fun hc => ((hcf (K1 hc).1).2 t0 rfl).mono (K1 hc).2.1
      have nx1 : s1.code = 0 -> s1.nx + 2 * sizeL ((l.drop (k + 1)).map xz) <= 3000000 := fun hc => by have := (K1 hc).2.2.1; have := (hcf (K1 hc).1).1; omega
      have cd := Zp (T := p.types.map MType.enc) (N := p.nodes.map MNode.enc) s1 t0 ty 0 ok1 (fun hc => by have := nx1 hc; omega) t0G (fun hc => (K1 hc).2.2.2) (by omega) (by omega)
      obtain ⟨ok2, z2⟩ := sameS_ok 0 ok1 (fun hc => by have := nx1 hc; omega) t0G (fun hc => (K1 hc).2.2.2)
      generalize yr s1 t0 ty 0 = s2 at *
      simp only [xB] at cp cd
      (have hWf := w10 @h4 @b4 @h10 @b42 @h11 @b11 @h44 @h45 @h46 (ai @hx <| ai @he <| ai @ek <| @wD); repeat' (first | refine zS ?_ | refine zI ?_ ?_ | refine zH cp ?_ | refine zH cd ?_ | exact zF0 | refine zD fun hb => ?_ | exact zC | refine zT ?_ | fail))
      refine hK (l.length - (k + 1)) _ (by omega) ⟨k + 1, some t0, s2, by omega, rfl, by simp, ok2, fun hc => ⟨by rw [(z2 hc).2]; exact nx1 (z2 hc).1, fun t e => by injection e with e; subst e; rw [(z2 hc).2]; exact t0G (z2 hc).1⟩, fun t e => by injection e with e; subst e; exact t0l, by rw [<- hrun, hstep], ?_⟩
      simp only [go_sem, simprocAttr, h4, b4, h10, b42, h11, b11, h44, h45, h46, wD, Int.natCast_succ]
      all_goals trace_state
    ·obtain rfl : k = l.length := by omega
     rw [List.drop_length, List.map_nil] at hrun
     cases f with
     | none => have := hfk.1 rfl; omega
     | some t0 =>
      have t0l := hfl t0 rfl
      have hrun : yf p.types (l.map xz) none is0 = (t0, s) := hrun.symm
      rw [hrun]
      dsimp only
      by_cases hz : s.code = 0
      ·have e0 : (s.code != 0) = false := by simp [hz]
       have G := hs0 hz
       have t0G := (hcf hz).2 t0 rfl
       have bx := zn (l := s.l) (B := 200) (by omega) G.g.len t0
       have px := zJ t0 s.l (by omega) (by have := G.len; have := (hcf hz).1; omega) G.g.dif (by omega)
       have cc := QR (putX s.l t0) (by omega)
       have hcl := canonM_len' (putX s.l t0)
       have gx := wR (putX s.l t0)
       by_cases hb : 200 < (putX s.l t0).length
       ·have hR : yK s t0 = ([], 26) := by unfold yK; rw [if_neg (by omega), if_pos hb]
        have f1 : decide (((putX s.l t0).length : Int) > 200) = true := by rw [gx]; exact decide_eq_true hb
        rw [hR]
        (have hWf := w10 @h4 @b4 @h10 @b42 @h11 @b11 @h44 @h45 @h46 (ai @e0 <| ai @f1 <| ai @hcl <| @wD); repeat' (first | refine zS ?_ | refine zI ?_ ?_ | refine zK px ?_ | refine zK cc ?_ | exact zF0 | refine zD fun hb => ?_ | exact zC | refine zT ?_ | fail))
        all_goals first | exact .inr ⟨rfl, rfl⟩ | exact .inl rfl | trace_state
       ·have hR : yK s t0 = (x0 (putX s.l t0), 0) := by unfold yK; rw [if_neg (by omega), if_neg hb]
        have f1 : decide (((putX s.l t0).length : Int) > 200) = false := by rw [gx]; exact decide_eq_false hb
        rw [hR]
        (have hWf := w10 @h4 @b4 @h10 @b42 @h11 @b11 @h44 @h45 @h46 (ai @e0 <| ai @f1 <| ai @hcl <| @wD); repeat' (first | refine zS ?_ | refine zI ?_ ?_ | refine zK px ?_ | refine zK cc ?_ | exact zF0 | refine zD fun hb => ?_ | exact zC | refine zT ?_ | fail))
        all_goals first | exact .inr ⟨rfl, rfl⟩ | exact .inl rfl | trace_state
      ·have e0 : (s.code != 0) = true := by simpa using hz
       have hR : yK s t0 = ([], s.code) := by unfold yK; rw [if_pos hz]
       rw [hR]
       (have hWf := w10 @h4 @b4 @h10 @b42 @h11 @b11 @h44 @h45 @h46 (ai @e0 <| @wD); repeat' (first | refine zS ?_ | refine zI ?_ ?_ | exact zF0 | refine zD fun hb => ?_ | exact zC | refine zT ?_ | fail))
       all_goals first | exact .inr ⟨rfl, rfl⟩ | exact .inl rfl | trace_state
open Classical in
noncomputable def uz (p : MProgram) (l : List MPat) : List TyI × Int := if Yg p l then wW p l else ([], 1)
theorem name12 {s : ByteArray} (h : xU s = true) : s.size <= 12 := by
 unfold xU zr at h
 simp only [Bool.and_eq_true, decide_eq_true_eq] at h
 have h2 : s.data.toList.length = s.size := Array.length_toList
 omega
theorem Qn.size {n : Nat} {x : TyI} (h : Qn n x) : x.name.size <= 12 := by
 have key : ∀ b : ByteArray, x.name.toList = b.toList -> x.name = b := fun b e => y4.1 (beq_iff_eq.2 e)
 cases hb : varB x with
 | true =>
  have e : x.name = ⟨#[]⟩ := key _ (by
   unfold varB at hb
   rw [List.isEmpty_iff.1 hb, ByteArray.toList_eq])
  rw [e]; decide
 | false =>
  have hi := h.2 hb
  rw [um] at hi
  rw [wl] at hb
  unfold itemD at hi
  rw [if_neg (by rw [hb]; simp)] at hi
  rw [Bool.and_eq_true] at hi
  have hi := hi.2
  split at hi
  ·rename_i q
   rw [Bool.or_eq_true, beq_iff_eq, beq_iff_eq] at q
   have h2 : x.name.data.toList.length = x.name.size := Array.length_toList
   rcases q with q | q <;> rw [q] at h2 <;> simp at h2 <;> omega
  ·split at hi
   ·rename_i q
    have h2 : x.name.data.toList.length = x.name.size := Array.length_toList
    rw [beq_iff_eq] at q
    rw [q] at h2; simp at h2; omega
   ·simp only [Bool.and_eq_true] at hi
    exact name12 hi.1.1
theorem pats_sm {p : MProgram} {l : List MPat} (hsz : cnts (fun q : MPat => q.nodes.length) l <= 1048576) : (uz p l).1.length <= 200 /\ ∀ x ∈ (uz p l).1, x.name.size <= 12 := by
 unfold uz
 split
 ·rename_i h
  have T := YK h.prog
  have hts := Z8 h.pats
  have G0 := patsG T (l.map xz) (Z7 h.pats) none is0
  have g1 := G0.ok vz (by show 0 + 2 * _ <= _; omega) nofun
  have g2 := G0.ty vz (by show 0 + 2 * _ <= _; omega) (fun _ e => h.ne (List.map_eq_nil_iff.1 e)) nofun
  unfold wW yK
  generalize xV p.types (l.map xz) none is0 = R at *
  split
  ·exact ⟨Nat.zero_le _, nofun⟩
  ·rename_i q
   have q : R.2.code = 0 := Classical.not_not.1 q
   split
   ·exact ⟨Nat.zero_le _, nofun⟩
   ·rename_i hb
    refine ⟨by rw [canonM_len']; omega, fun x hx => ?_⟩
    unfold x0 at hx
    obtain ⟨y, hy, rfl⟩ := List.mem_map.1 hx
    have : (x9 (xm (putX R.2.l R.1)) y).name = y.name := by unfold x9; split <;> rfl
    rw [this]
    exact ((g1 q).g.putQ (g2 q).q y hy).size
 ·exact ⟨Nat.zero_le _, nofun⟩
theorem xac (p : MProgram) (l : List MPat) (ho : p.ok) (hs : p.sm) (hol : ∀ q ∈ l, q.ok) (hsl : smS MPat.sm l) (hsz : cnts (fun q : MPat => q.nodes.length) l <= 1048576) : FCon Tryz.prog 13 [.ag p.enc, .sl 1 (l.map MPat.enc)] (fun r _ => r = .tup [.ag [.osl 143 3 ((uz p l).1.map TyI.own)], .s (.int .i64 (uz p l).2)]) := by
 unfold uz
 split
 ·rename_i h; exact Vq p l ho hs hol hsl hsz (Yo p ho hs) h
 ·rename_i h; exact WN p l ho hs hol hsl (Yo p ho hs) h
theorem xal (p : MProgram) (l : List MPat) (ho : p.ok) (hs : p.sm) (hol : ∀ q ∈ l, q.ok) (hsl : smS MPat.sm l) (hsz : cnts (fun q : MPat => q.nodes.length) l <= 1048576) : FCon Tryz.prog 10 [.ag p.enc, .sl 1 (l.map MPat.enc)] (fun r _ => r = .tup [.ag [.sl 3 ((uz p l).1.map TyI.enc)], .s (.int .i64 (uz p l).2)]) := by
 unfold uz
 split
 ·rename_i h; exact Vs p l ho hs hol hsl hsz h
 ·rename_i h; exact WO p l ho hs hol hsl h
theorem xar (l : List MPat) : cnts (fun q : MPat => q.nodes.length) l <= cnts MPat.tot l := by
 induction l with
 | nil => exact Nat.le_refl _
 | cons q l ih => show q.nodes.length + cnts _ l <= q.tot + cnts _ l; rw [MPat.tot_eq]; omega
theorem cnts_pcnt (l : List MPat) : cnts MPat.cnt l <= 6 * l.length + 6 * cnts MPat.tot l := by
 induction l with
 | nil => exact Nat.le_refl _
 | cons q l ih =>
  have := MPat.cnt_le q
  show q.cnt + cnts _ l <= 6 * (l.length + 1) + 6 * (q.tot + cnts _ l); omega
theorem c_FnExactPatsTy (p : MProgram) (l : List MPat) (ho : p.ok) (hol : ∀ q ∈ l, q.ok) : FCon Tryz.prog 3 [.ag p.enc, .sl 1 (l.map MPat.enc)] (fun r _ => r = .s (.bool true)) := by
 by_cases hz : p.tot + (l.length + cnts MPat.tot l) <= 1048576
 ·have hs := MProgram.sm_of (x := p) (by omega)
  have hsl : smS MPat.sm l := ⟨by omega, fun q hq => MPat.sm_of (by have := wu (t := MPat.tot) hq; omega)⟩
  have hsz : cnts (fun q : MPat => q.nodes.length) l <= 1048576 := by have := xar l; omega
  have hpc := MProgram.cnt_le p
  have hlc := cnts_pcnt l
  obtain ⟨g1, g2⟩ := pats_sm (p := p) hsz
  have ci := xac p l ho hs hol hsl hsz
  have cs := xal p l ho hs hol hsl hsz
  generalize uz p l = X at *
  obtain ⟨xs, c⟩ := X
  dsimp only at *
  have hgs : (⟨xs⟩ : MTy).sm := ⟨by show xs.length <= _; omega, fun x hx => by have := g2 x hx; show x.name.size <= _; omega⟩
  have hgc : (⟨xs⟩ : MTy).cnt = 3 * xs.length := uX (fun _ => rfl) xs
  have tp := QU p hs
  have tl := VV l hsl
  have ep := QN p
  have el := VK l
  have et := c_eqTy ⟨xs⟩
  have mp := Vr p hs 1 (by omega) (by omega)
  have ml := XE l hsl (1 + (p.cnt : Nat)) (by omega) (by omega)
  have mt := c_markTy ⟨xs⟩ hgs 1 (by omega) (by omega)
  have ht := c_heldTy ⟨xs⟩ hgs 1 (by omega) (by omega)
  refine FI PM Tryz.func3 Tryz.ntmps3 [(14, 3, [], [], (lin [] [0, 1, 2]))] rfl rfl ?_
  (have hWf := w9 @MProgram.enc_eq @MProgram.own_eq @MProgram.mark_eq @MTy.enc_eq @MTy.own_eq @MTy.mark_eq @xh @pure_tupL @Qu; repeat' (first | refine zS ?_ | refine zI ?_ ?_ | ((with_reducible apply xc); refine xg (uy p ho 1048576 (by omega) (by omega)) ?_; rintro _ _ ⟨z, rfl, za, zb, zc⟩) | refine zU (uy p ho 1048576 (by omega) (by omega)) ?_ | ((with_reducible apply xc); refine xg (ui l hol _ (by omega) (by omega)) ?_; rintro _ _ ⟨y, rfl, ya, yb, yc⟩) | ((with_reducible apply xf); refine xe (ui l hol _ (by omega) (by omega)) ?_) | refine zK tp ?_ | refine zK tl ?_ | refine zK cs ?_ | refine zK ci ?_ | refine zK et ?_ | refine zK ep ?_ | refine zK el ?_ | refine zH mp ?_ | refine zH ml ?_ | refine zH mt ?_ | refine zK ht ?_ | exact zF0 | refine zD fun hb => ?_ | exact zC | refine zT ?_ | fail))
  all_goals trace_state
 ·refine FI PM Tryz.func3 Tryz.ntmps3 [(14, 3, [], [], (lin [] [0, 1, 2]))] rfl rfl ?_
  (have hWf := w1 @MProgram.enc_eq; repeat' (first | refine zS ?_ | refine zI ?_ ?_ | ((with_reducible apply xc); refine xg (uy p ho 1048576 (by omega) (by omega)) ?_; rintro _ _ ⟨z, rfl, za, zb, zc⟩) | refine zU (uy p ho 1048576 (by omega) (by omega)) ?_ | ((with_reducible apply xc); refine xg (ui l hol _ (by omega) (by omega)) ?_; rintro _ _ ⟨y, rfl, ya, yb, yc⟩) | ((with_reducible apply xf); refine xe (ui l hol _ (by omega) (by omega)) ?_) | exact zF0 | refine zD fun hb => ?_ | exact zC | refine zT ?_ | fail))
  all_goals exact absurd (by have := zc (by omega); have := yc (by omega); omega) hz
end
section
open Go.RowKit Go.ChangeShapes Go.WideShapes
theorem yN : RdE 3 1 iE I64 := (funext xn ▸ RdE.int Tryz.underlying3 (by kernel_rfl))
theorem XY : RdE 50 1 (fun l : List Int => [xJ l]) (fun l => ∀ x ∈ l, I64 x) := RdE.slice Tryz.underlying50 (by kernel_rfl) (by decide) yN
theorem yB : RdE 9 1 (fun s : ByteArray => [.s (.string s)]) (fun s => s.size <= maxLen) := RdE.string Tryz.underlying9 (by kernel_rfl)
theorem Qy : RdE 4 1 (fun b : Bool => [.s (.bool b)]) (fun _ => True) := RdE.bool Tryz.underlying4 (by kernel_rfl)
theorem xaB : RdE 328 3 TyI.enc TyI.ok := by
 refine ⟨by kernel_rfl, fun H en W n cs x h => ?_⟩
 obtain ⟨hl, m, hf⟩ := zh Tryz.underlying328 h
 rw [show Tryz.prog.cellsOf 328 = 3 from by kernel_rfl] at hl
 simp only [List.forall_mem_cons, yN.1, yB.1] at hf
 obtain ⟨⟨_, h0⟩, ⟨_, h1⟩, ⟨_, h2⟩, _⟩ := hf
 obtain ⟨a0, r0, o0⟩ := yN.2 _ _ _ _ _ _ h0
 obtain ⟨a1, r1, o1⟩ := yB.2 _ _ _ _ _ _ h1
 obtain ⟨a2, r2, o2⟩ := yN.2 _ _ _ _ _ _ h2
 refine ⟨⟨a0, a1, a2⟩, ?_, o0, o1, o2⟩
 rw [xn] at r0 r2
 exact (PartsL.cons (k := 1) r0 (PartsL.cons (k := 1) r1 (PartsL.cons (k := 1) r2 (PartsL.nil hl.symm) (by omega)) (by omega)) (by omega)).rep
theorem Zx : RdE 266 1 (fun xs : List TyI => [.sl 3 (xs.map TyI.enc)]) (fun xs => ∀ x ∈ xs, x.ok) := RdE.slice Tryz.underlying266 (by kernel_rfl) (by decide) xaB
theorem rdE_Ty : RdE 268 1 (fun xs : List TyI => [.sl 3 (xs.map TyI.enc)]) (fun xs => ∀ x ∈ xs, x.ok) := by
 refine ⟨by kernel_rfl, fun H en W n cs x h => ?_⟩
 obtain ⟨hl, m, hf⟩ := zh Tryz.underlying268 h
 rw [show Tryz.prog.cellsOf 268 = 1 from by kernel_rfl] at hl
 simp only [List.forall_mem_cons, Zx.1] at hf
 obtain ⟨⟨_, h0⟩, _⟩ := hf
 obtain ⟨a0, r0, o0⟩ := Zx.2 _ _ _ _ _ _ h0
 exact ⟨a0, (PartsL.cons (k := 1) r0 (PartsL.nil hl.symm) (by omega)).rep, o0⟩
theorem rdE_PNode : RdE 213 4 DPNode.enc DPNode.ok := by
 refine ⟨by kernel_rfl, fun H en W n cs x h => ?_⟩
 obtain ⟨hl, m, hf⟩ := zh Tryz.underlying213 h
 rw [show Tryz.prog.cellsOf 213 = 4 from by kernel_rfl] at hl
 simp only [List.forall_mem_cons, yN.1, yB.1, XY.1] at hf
 obtain ⟨⟨_, h0⟩, ⟨_, h1⟩, ⟨_, h2⟩, ⟨_, h3⟩, _⟩ := hf
 obtain ⟨a0, r0, o0⟩ := yN.2 _ _ _ _ _ _ h0
 obtain ⟨a1, r1, o1⟩ := yN.2 _ _ _ _ _ _ h1
 obtain ⟨a2, r2, o2⟩ := yB.2 _ _ _ _ _ _ h2
 obtain ⟨a3, r3, o3⟩ := XY.2 _ _ _ _ _ _ h3
 refine ⟨⟨a0, a1, a2, a3⟩, ?_, o0, o1, o2, o3⟩
 rw [xn] at r0 r1
 exact (PartsL.cons (k := 1) r0 (PartsL.cons (k := 1) r1 (PartsL.cons (k := 1) r2 (PartsL.cons (k := 1) r3 (PartsL.nil hl.symm) (by omega)) (by omega)) (by omega)) (by omega)).rep
theorem WA : RdE 68 1 (fun xs : List DPNode => [.sl 4 (xs.map DPNode.enc)]) (fun xs => ∀ x ∈ xs, x.ok) := RdE.slice Tryz.underlying68 (by kernel_rfl) (by decide) rdE_PNode
theorem rdE_Pat : RdE 70 1 MPat.enc MPat.ok := by
 refine ⟨by kernel_rfl, fun H en W n cs x h => ?_⟩
 obtain ⟨hl, m, hf⟩ := zh Tryz.underlying70 h
 rw [show Tryz.prog.cellsOf 70 = 1 from by kernel_rfl] at hl
 simp only [List.forall_mem_cons, WA.1] at hf
 obtain ⟨⟨_, h0⟩, _⟩ := hf
 obtain ⟨a0, r0, o0⟩ := WA.2 _ _ _ _ _ _ h0
 refine ⟨⟨a0⟩, ?_, o0⟩
 exact (PartsL.cons (k := 1) r0 (PartsL.nil hl.symm) (by omega)).rep
theorem rdE_Pats : RdE 26 1 (fun xs : List MPat => [.sl 1 (xs.map MPat.enc)]) (fun xs => ∀ x ∈ xs, x.ok) := RdE.slice Tryz.underlying26 (by kernel_rfl) (by decide) rdE_Pat
theorem rdE_Node : RdE 132 6 MNode.enc MNode.ok := by
 refine ⟨by kernel_rfl, fun H en W n cs x h => ?_⟩
 obtain ⟨hl, m, hf⟩ := zh Tryz.underlying132 h
 rw [show Tryz.prog.cellsOf 132 = 6 from by kernel_rfl] at hl
 simp only [List.forall_mem_cons, yN.1, yB.1, XY.1, rdE_Pats.1] at hf
 obtain ⟨⟨_, h0⟩, ⟨_, h1⟩, ⟨_, h2⟩, ⟨_, h3⟩, ⟨_, h4⟩, ⟨_, h5⟩, _⟩ := hf
 obtain ⟨a0, r0, o0⟩ := yN.2 _ _ _ _ _ _ h0
 obtain ⟨a1, r1, o1⟩ := yN.2 _ _ _ _ _ _ h1
 obtain ⟨a2, r2, o2⟩ := yN.2 _ _ _ _ _ _ h2
 obtain ⟨a3, r3, o3⟩ := yB.2 _ _ _ _ _ _ h3
 obtain ⟨a4, r4, o4⟩ := XY.2 _ _ _ _ _ _ h4
 obtain ⟨a5, r5, o5⟩ := rdE_Pats.2 _ _ _ _ _ _ h5
 refine ⟨⟨a0, a1, a2, a3, a4, a5⟩, ?_, o0, o1, o2, o3, o4, o5⟩
 rw [xn] at r0 r1 r2
 exact (PartsL.cons (k := 1) r0 (PartsL.cons (k := 1) r1 (PartsL.cons (k := 1) r2 (PartsL.cons (k := 1) r3 (PartsL.cons (k := 1) r4 (PartsL.cons (k := 1) r5 (PartsL.nil hl.symm) (by omega)) (by omega)) (by omega)) (by omega)) (by omega)) (by omega)).rep
theorem Vb : RdE 23 1 (fun xs : List MNode => [.sl 6 (xs.map MNode.enc)]) (fun xs => ∀ x ∈ xs, x.ok) := RdE.slice Tryz.underlying23 (by kernel_rfl) (by decide) rdE_Node
theorem rdE_Con : RdE 270 3 MCon.enc MCon.ok := by
 refine ⟨by kernel_rfl, fun H en W n cs x h => ?_⟩
 obtain ⟨hl, m, hf⟩ := zh Tryz.underlying270 h
 rw [show Tryz.prog.cellsOf 270 = 3 from by kernel_rfl] at hl
 simp only [List.forall_mem_cons, yB.1, Qy.1, rdE_Ty.1] at hf
 obtain ⟨⟨_, h0⟩, ⟨_, h1⟩, ⟨_, h2⟩, _⟩ := hf
 obtain ⟨a0, r0, o0⟩ := yB.2 _ _ _ _ _ _ h0
 obtain ⟨a1, r1, o1⟩ := Qy.2 _ _ _ _ _ _ h1
 obtain ⟨a2, r2, o2⟩ := rdE_Ty.2 _ _ _ _ _ _ h2
 refine ⟨⟨a0, a1, a2⟩, ?_, o0, o1, o2⟩
 exact (PartsL.cons (k := 1) r0 (PartsL.cons (k := 1) r1 (PartsL.cons (k := 1) r2 (PartsL.nil hl.symm) (by omega)) (by omega)) (by omega)).rep
theorem Qx : RdE 127 1 (fun xs : List MCon => [.sl 3 (xs.map MCon.enc)]) (fun xs => ∀ x ∈ xs, x.ok) := RdE.slice Tryz.underlying127 (by kernel_rfl) (by decide) rdE_Con
theorem rdE_Type : RdE 129 3 MType.enc MType.ok := by
 refine ⟨by kernel_rfl, fun H en W n cs x h => ?_⟩
 obtain ⟨hl, m, hf⟩ := zh Tryz.underlying129 h
 rw [show Tryz.prog.cellsOf 129 = 3 from by kernel_rfl] at hl
 simp only [List.forall_mem_cons, yB.1, yN.1, Qx.1] at hf
 obtain ⟨⟨_, h0⟩, ⟨_, h1⟩, ⟨_, h2⟩, _⟩ := hf
 obtain ⟨a0, r0, o0⟩ := yB.2 _ _ _ _ _ _ h0
 obtain ⟨a1, r1, o1⟩ := yN.2 _ _ _ _ _ _ h1
 obtain ⟨a2, r2, o2⟩ := Qx.2 _ _ _ _ _ _ h2
 refine ⟨⟨a0, a1, a2⟩, ?_, o0, o1, o2⟩
 rw [xn] at r1
 exact (PartsL.cons (k := 1) r0 (PartsL.cons (k := 1) r1 (PartsL.cons (k := 1) r2 (PartsL.nil hl.symm) (by omega)) (by omega)) (by omega)).rep
theorem Vc : RdE 22 1 (fun xs : List MType => [.sl 3 (xs.map MType.enc)]) (fun xs => ∀ x ∈ xs, x.ok) := RdE.slice Tryz.underlying22 (by kernel_rfl) (by decide) rdE_Type
theorem rdE_Program : RdE 25 2 MProgram.enc MProgram.ok := by
 refine ⟨by kernel_rfl, fun H en W n cs x h => ?_⟩
 obtain ⟨hl, m, hf⟩ := zh Tryz.underlying25 h
 rw [show Tryz.prog.cellsOf 25 = 2 from by kernel_rfl] at hl
 simp only [List.forall_mem_cons, Vc.1, Vb.1] at hf
 obtain ⟨⟨_, h0⟩, ⟨_, h1⟩, _⟩ := hf
 obtain ⟨a0, r0, o0⟩ := Vc.2 _ _ _ _ _ _ h0
 obtain ⟨a1, r1, o1⟩ := Vb.2 _ _ _ _ _ _ h1
 refine ⟨⟨a0, a1⟩, ?_, o0, o1⟩
 exact (PartsL.cons (k := 1) r0 (PartsL.cons (k := 1) r1 (PartsL.nil hl.symm) (by omega)) (by omega)).rep
end
end Go.Proofs.YtmnokalddmlogaaGreat
