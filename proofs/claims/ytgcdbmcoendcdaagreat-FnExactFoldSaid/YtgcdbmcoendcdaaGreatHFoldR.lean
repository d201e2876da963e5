import Derived.Test.YtgcdbmcoendcdaaGreatHFoldJ
/- Folding in the program, over the second engine: a tree rewritten. -/
set_option maxRecDepth 100000
set_option maxHeartbeats 4000000
namespace Go.Proofs.YtgcdbmcoendcdaaGreat
set_option linter.unusedVariables false
set_option linter.unusedSimpArgs false
open Go.RowKit Arb
section
variable {M : Md} {N : Nat} {pl : List (Nat × Plan)} {K : Exit → St → Prop} {σ : St} {c : Code}
theorem AC_foldM (id : Nat) (h : match foldB σ id with
  | some (ob, _, σ') => ob ∧ AC M N pl c K σ'
  | none => False) : AC M N pl c K σ := by
  split at h
  · rename_i ob ds σ' hf
    exact AC_fold id hf h.1 h.2
  · exact h.elim
end
def fdN (a : EI) (_ : List ET) : Prop := a.s.size ≤ 1048576 ∧ patsB a.pats
theorem patsB_nil : patsB [] := ⟨by simp, by simp⟩
theorem fdN_leaf {a x y b : EI} {r l : List ET} (h : foldP a x y = some b) : fdN b l := by
  unfold foldP at h
  split at h
  · split at h
    · rename_i q
      injection h with h; subst h
      exact ⟨by simp only [ByteArray.size_append]; omega, patsB_nil⟩
    · cases h
  · split at h
    · split at h
      · injection h with h; subst h
        refine ⟨?_, patsB_nil⟩
        simp only
        split <;> decide
      · split at h
        · injection h with h; subst h
          exact ⟨by show noS.size ≤ 1048576; decide, patsB_nil⟩
        · cases h
      · cases h
    · cases h
theorem fdN_fold : ∀ t : ET, All fdN t → All fdN (foldE t) := fun t => by
  induction t using Arb.ind with
  | h a l ih =>
    intro h
    have hk : ∀ x ∈ l.map foldE, All fdN x := fun x hx => by
      obtain ⟨y, hy, rfl⟩ := List.mem_map.1 hx
      exact ih y hy (h.kid y hy)
    show All fdN (foldG id id (.mk a l))
    rw [foldG_mk]
    refine foldR_cases (P := All fdN) a (l.map foldE) ?_ ?_ ?_
    · exact All.mk h.root hk
    · intro x y b _ _ hb
      exact All.mk (fdN_leaf (r := []) hb) (by simp)
    · intro x hx _
      exact hk x hx
theorem mat_of {a : EI} {l : List ET} (v : EV a l) (hk : a.kind = 13) : ∃ x r, l = x :: r ∧ a.pats.length = r.length := by
  cases v with
  | mat x r k e q1 q2 q3 => exact ⟨x, r, e, q1⟩
  | _ => exfalso; omega
theorem cntN_of : ∀ t : ET, okT t → All fdN t → All cntN t := fun t => by
  induction t using Arb.ind with
  | h a l ih =>
    intro h1 h2
    refine All.mk ⟨h2.root.2, fun hk => ?_⟩ fun x hx => ih x hx (h1.kid x hx) (h2.kid x hx)
    obtain ⟨x, r, rfl, q⟩ := mat_of h1.root.v hk
    rw [List.length_cons]; omega
theorem c_folded (a : EI) (l : List ET) (ok : okN a l) (hA : ∀ x ∈ l, okT x) (hF : ∀ x ∈ l, All fdN x) (hs : sizeL l ≤ 1000000) : FCon Tryz.prog 32 [exE (.mk a l)] (fun r _ => r = exE (foldR id id a l)) := by
  have hk := ok.v
  by_cases k10 : a.kind = 10
  · cases hk with
    | prim x y k e h =>
      subst e
      obtain ⟨b, r1⟩ := x
      obtain ⟨c, r2⟩ := y
      exact folded_prim a b c r1 r2 k10 (hF (.mk b r1) (by simp)).root.1 (hF (.mk c r2) (by simp)).root.1
    | _ => exfalso; omega
  · by_cases k9 : a.kind = 9
    · cases hk with
      | if_ x y z k e h =>
        subst e
        obtain ⟨b, r1⟩ := x
        obtain ⟨c, r2⟩ := y
        obtain ⟨d, r3⟩ := z
        exact folded_if a b c d r1 r2 r3 k9
      | _ => exfalso; omega
    · by_cases k19 : a.kind = 19
      · cases hk with
        | seq x y k e h =>
          subst e
          obtain ⟨b, r1⟩ := x
          obtain ⟨c, r2⟩ := y
          exact folded_seq a b c r1 r2 k19
        | _ => exfalso; omega
      · by_cases k7 : a.kind = 7
        · cases hk with
          | let_ x y k e h =>
            subst e
            obtain ⟨b, r1⟩ := x
            obtain ⟨c, r2⟩ := y
            refine folded_let a b c r1 r2 k7 (cntN_of _ (hA _ (by simp)) (hF _ (by simp))) ?_
            rw [sizeL_cons, sizeL_cons, sizeL_nil] at hs; omega
          | _ => exfalso; omega
        · exact folded_other a l k10 k9 k19 k7
theorem exE_frz : ∀ t : ET, frz (exE t) = exE t := fun t => by
  obtain ⟨a, l⟩ := t
  rw [exE_mk]; rfl
def exF (t : ET) : List D := [exE (foldE t)]
theorem c_rewrite : ∀ t : ET, okT t → All fdN t → t.size ≤ 1000000 → FCon Tryz.prog 30 [exO t, .fn 32 []] (fun r o => r = exE (foldE t) ∧ o = [.un, .un]) := fun t => by
  induction t using Arb.ind with
  | h a l ih =>
    intro ok hF hs
    rw [size_mk] at hs
    have hll := sizeL_len l
    have hsl : sizeL (l.map foldE) ≤ 1000000 := by
      have : ∀ m : List ET, sizeL (m.map foldE) ≤ sizeL m := fun m => by
        induction m with
        | nil => exact Nat.le_refl _
        | cons t m ih2 => rw [List.map_cons, sizeL_cons, sizeL_cons]; have := foldE_size t; omega
      have := this l
      omega
    have hfd := c_folded a (l.map foldE) ⟨ok.root.v.fold, ok.root.at0, ok.root.n0, ok.root.p0, ok.root.pm⟩ (fun x hx => by
      obtain ⟨y, hy, rfl⟩ := List.mem_map.1 hx; exact okT_fold y (ok.kid y hy)) (fun x hx => by
      obtain ⟨y, hy, rfl⟩ := List.mem_map.1 hx; exact fdN_fold y (hF.kid y hy)) hsl
    obtain ⟨d, r, hd⟩ : ∃ d r, foldR id id a (l.map foldE) = .mk d r := ⟨_, _, Arb.eta _⟩
    have hfe : foldE (.mk a l) = .mk d r := by show foldG id id _ = _; rw [foldG_mk]; exact hd
    rw [hd] at hfd
    rw [hfe]
    rw [exO_mk]
    rw [exE_mk, exE_mk] at hfd
    rw [exE_mk]
    refine FCon.intro PM _ Tryz.func30 (by kernel_rfl) rfl _ Tryz.ntmps30 rfl [(4, 8, [7], [(7, 0), (7, 1), (7, 2), (7, 3), (7, 4)], (lin [7] [0, 1, 2, 3, 4, 5, 6, 7]))] (by decide +kernel) (by simp) (by simp) rfl (by first | rfl | simp only [go_sem]) ?_
    (have hWf := f0; repeat' (first | refine zS ?_ | exact zE | with_reducible apply And.intro | with_reducible exact zB0 | with_reducible refine zB fun hb => ?_ | exact zC | refine zT ?_ | fail))
    refine AC_loopW (fun n σ => ∃ k : Nat, k ≤ l.length ∧ n = l.length - k ∧ σ.t 0 = .bx 900000 0 ∧ σ.t 1 = .fn 32 [] ∧ σ.t 10 = .bs 5900000 1 l.length ∧ σ.t 11 = .s (.int .i64 l.length) ∧ σ.t 12 = .s (.int .i64 k) ∧
      σ.b 900000 = some (.box [.s (.int .i64 a.kind), .s (.int .i64 a.at_), .s (.int .i64 a.n), .s (.string a.s), .bs 5900000 1 l.length, .bs 6900000 1 a.pats.length]) ∧ σ.b 5900000 = some (.arr 72 1 (mixR exF exR l k)) ∧ σ.b 6900000 = some (.arr 89 1 (a.pats.map MPat.own))) l.length ⟨0, by omega, by omega, ?_⟩ ?_
    · simp only [go_sem, simprocAttr, Int.natCast_zero, mixR_zero]
    · rintro n σ ⟨k, hk, rfl, h0, h1, h10, h11, h12, b9, b5, b6⟩ K' hK
      by_cases hlt : k < l.length
      · obtain ⟨b, q, hbr⟩ : ∃ b q, l[k] = .mk b q := ⟨_, _, Arb.eta _⟩
        have hi := ih l[k] (List.getElem_mem hlt) (ok.kid _ (List.getElem_mem hlt)) (hF.kid _ (List.getElem_mem hlt)) (by have := size_mem (List.getElem_mem hlt); omega)
        have hx : exR l[k] = [.opt [.s (.int .i64 b.kind), .s (.int .i64 b.at_), .s (.int .i64 b.n), .s (.string b.s), .osl 72 1 (q.map exR), .osl 89 1 (b.pats.map MPat.own)]] := by show [exO _] = _; rw [hbr, exO_mk]
        have hrow : (mixR exF exR l k)[k]? = some (exR l[k]) := by
          have h1 : k < (mixR exF exR l k).length := by rw [mixR_len]; exact hlt
          rw [List.getElem?_eq_getElem h1, ← getD_of (List.getElem?_eq_getElem h1), mixR_get hlt]
        obtain ⟨f, u, hfu⟩ : ∃ f u, foldE l[k] = .mk f u := ⟨_, _, Arb.eta _⟩
        have hst := mixR_set (f := exF) (g := exR) hlt
        have hef : exF l[k] = [.pt [.s (.int .i64 f.kind), .s (.int .i64 f.at_), .s (.int .i64 f.n), .s (.string f.s), .sl 1 (u.map exS), .sl 1 (f.pats.map MPat.enc)]] := by show [exE _] = _; rw [hfu, exE_mk]
        rw [hfu, hbr, exO_mk, exE_mk] at hi
        have hml : (mixR exF exR l k).length = l.length := mixR_len
        refine AC_open 5900000 k 0 777 (e := 72) (k := 1) (rows := mixR exF exR l k) (row := exR l[k]) (d := .opt [.s (.int .i64 b.kind), .s (.int .i64 b.at_), .s (.int .i64 b.n), .s (.string b.s), .osl 72 1 (q.map exR), .osl 89 1 (b.pats.map MPat.own)]) b5 hrow (by rw [hx]; rfl) rfl (by decide) (by decide) ?_
        (have hWf := WFx.mk (ai @h0 <| ai @h1 <| ai @h10 <| ai @h11 <| ai @h12 <| ai @b9 <| ai @b5 <| ai @b6 <| @hml); repeat' (first | refine zS ?_ | exact zE | with_reducible apply And.intro | ((with_reducible apply q_CallE); refine CallE_mk (hi) ?_) | ((with_reducible apply q_CallG); refine CallG_mk (hi) ?_; rintro _ _ ⟨rfl, rfl⟩) | with_reducible exact zB0 | with_reducible refine zB fun hb => ?_ | exact zC | refine zT ?_ | fail))
        have hset : (mixR exF exR l k).set k (((mixR exF exR l k).getD k []).set 0 (.pt [.s (.int .i64 f.kind), .s (.int .i64 f.at_), .s (.int .i64 f.n), .s (.string f.s), .sl 1 (u.map exS), .sl 1 (f.pats.map MPat.enc)])) = mixR exF exR l (k + 1) := by
          rw [mixR_get hlt, hx, List.set_cons_zero, ← hef]; exact hst
        refine hK (l.length - (k + 1)) _ _ (by omega) (Wk_closeD 5900000 (e := 72) (k := 1) (i := k) (j := 0) (rows := mixR exF exR l k) (r := .pt [.s (.int .i64 f.kind), .s (.int .i64 f.at_), .s (.int .i64 f.n), .s (.string f.s), .sl 1 (u.map exS), .sl 1 (f.pats.map MPat.enc)]) ?_ rfl) ⟨k + 1, by omega, rfl, ?_⟩
        · simp only [go_sem, simprocAttr]
        · simp only [go_sem, simprocAttr, h0, h1, h10, h11, h12, b9, b5, b6, Int.natCast_succ, hset]
      · obtain rfl : k = l.length := by omega
        rw [mixR_all] at b5
        have hfz : frzLL (l.map exF) = (l.map foldE).map exS := by
          rw [frzLL_map, List.map_map, List.map_map]
          refine List.map_congr_left fun x _ => ?_
          show frzL [exE (foldE x)] = [exE (foldE x)]
          simp only [frzL, exE_frz]
        have hfd : FCon Tryz.prog 32 [.pt [.s (.int .i64 a.kind), .s (.int .i64 a.at_), .s (.int .i64 a.n), .s (.string a.s), .sl 1 ((l.map foldE).map exS), .sl 1 (a.pats.map MPat.enc)]] _ := hfd
        refine AC_foldM 900000 ?_
        simp only [go_sem, simprocAttr, b9, b5, b6, foldB, List.length_map, List.take_length]
        refine AC_fr 900000 (.box [.s (.int .i64 a.kind), .s (.int .i64 a.at_), .s (.int .i64 a.n), .s (.string a.s), .osl 72 1 (l.map exF), .osl 89 1 (a.pats.map MPat.own)]) (by simp only [go_sem, simprocAttr]) rfl ?_
        (have hWf := WFx.mk (ai @h0 <| ai @h1 <| ai @h10 <| ai @h11 <| ai @h12 <| ai @hfz <| @MPat.frzS); repeat' (first | refine zS ?_ | exact zE | with_reducible apply And.intro | refine zK (hfd) ?_ | with_reducible exact zB0 | with_reducible refine zB fun hb => ?_ | exact zC | refine zT ?_ | fail))
end Go.Proofs.YtgcdbmcoendcdaaGreat
