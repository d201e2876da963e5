import Derived.Test.YtngobmjdbjlkcaaPuB
import Derived.Test.YtngobmjdbjlkcaaInsB
import Derived.Test.YtngobmjdbjlkcaaHFitsM
/- impl.solver.bind, over the second engine: a variable is replaced by a type. -/
namespace Go.Proofs.Ytngobmjdbjlkcaa
set_option linter.unusedVariables false
set_option linter.unusedSimpArgs false
open Go.RowKit
theorem SubM.frzE_eq (x : SubM) : frzL x.enc = x.enc := by simp only [SubM.enc_eq, frzL, frz]
theorem SubM.frzE (xs : List SubM) : frzLL (xs.map SubM.enc) = xs.map SubM.enc := frz_rows SubM.frzE_eq xs
attribute [go_sem] SubM.frzE
theorem c_putI (xs : List TyI) (l : List SubM) (hl : xs.length ≤ 1000000000) (hb0 : (putX l xs).length ≤ 2199023255552) : FCon Try.prog 64 [.sl 3 (xs.map TyI.enc), .sl 2 (l.map SubM.enc)] (fun r _ => r = .sl 3 ((putX l xs).map TyI.enc)) := FCon.ice ((c_put xs l hl hb0).mono fun r o e => by
  subst e; simp only [frA, frz, TyI.frzS])
/-- the substitution behind a binding, and the code. -/
def nextM (l : List SubM) (v : Int) (u : List TyI) : List SubM := l.map fun s => ⟨s.v, putX [⟨v, u⟩] s.ty⟩
def cntU (l : List SubM) (v : Int) : Nat := (l.takeWhile fun s => decide (s.v < v)).length
def bindL (l : List SubM) (v : Int) (u : List TyI) : List SubM := insL (nextM l v u) (cntU l v) ⟨v, u⟩
def bigU (l : List SubM) : Bool := l.any fun s => decide (200 < s.ty.length)
def bindM (l : List SubM) (v : Int) (u : List TyI) : List SubM × Int := if v ∈ varsM u then (l, 3) else (bindL l v u, if (decide (200 < u.length) || bigU (nextM l v u)) = true then 4 else 0)
theorem nextM_len (l : List SubM) (v : Int) (u : List TyI) : (nextM l v u).length = l.length := by simp [nextM]
theorem nextM_take {l : List SubM} {k : Nat} (v : Int) (u : List TyI) (h : k < l.length) : nextM (l.take (k + 1)) v u = nextM (l.take k) v u ++ [⟨l[k].v, putX [⟨v, u⟩] l[k].ty⟩] := by
  unfold nextM; rw [List.take_succ_eq_append_getElem h, List.map_append]; rfl
theorem bigU_app (l : List SubM) (x : SubM) : bigU (l ++ [x]) = (bigU l || decide (200 < x.ty.length)) := by simp [bigU]
theorem nextM_v (l : List SubM) (v : Int) (u : List TyI) (k : Nat) (h : k < (nextM l v u).length) : (nextM l v u)[k].v = (l[k]'(by rwa [nextM_len] at h)).v := by simp [nextM]
theorem cntU_le (l : List SubM) (v : Int) : cntU l v ≤ l.length := (List.takeWhile_prefix _).length_le
theorem cntU_lt {l : List SubM} {v : Int} {k : Nat} (h : k < cntU l v) (hk : k < l.length) : l[k].v < v := by
  have h1 : l[k] ∈ l.takeWhile fun s => decide (s.v < v) := by
    have := (List.takeWhile_prefix (p := fun s : SubM => decide (s.v < v)) (l := l)).getElem h
    rw [← this]; exact List.getElem_mem h
  have h2 : ∀ (m : List SubM) (x : SubM), x ∈ m.takeWhile (fun s => decide (s.v < v)) → x.v < v := by
    intro m x
    induction m with
    | nil => simp
    | cons a m ih =>
      rw [List.takeWhile_cons]
      split
      · rename_i q
        intro hx
        rcases List.mem_cons.1 hx with rfl | hx
        · simpa using q
        · exact ih hx
      · simp
  exact h2 _ _ h1
theorem cntU_at {l : List SubM} {v : Int} (hk : cntU l v < l.length) : ¬ l[cntU l v].v < v := by
  intro h
  have := List.takeWhile_append_dropWhile (p := fun s : SubM => decide (s.v < v)) (l := l)
  have h2 : l.dropWhile (fun s => decide (s.v < v)) = l.drop (cntU l v) := by
    have e := congrArg (List.drop (cntU l v)) this
    rw [cntU, List.drop_left] at e
    exact e
  have h3 := List.head?_dropWhile_not (fun s : SubM => decide (s.v < v)) l
  rw [h2, List.head?_drop, List.getElem?_eq_getElem hk] at h3
  simp [h] at h3
theorem gtLen (u : List TyI) : decide ((u.length : Int) > 200) = decide (200 < u.length) := by rw [Bool.eq_iff_iff]; simp; omega
set_option maxRecDepth 100000 in
set_option maxHeartbeats 2000000 in
theorem c_bind (l : List SubM) (v : Int) (u : List TyI) (hl : l.length ≤ 1000000) (hu : u.length ≤ 1000000) (hs : ∀ s ∈ l, s.ty.length ≤ 1000000 ∧ (putX [⟨v, u⟩] s.ty).length ≤ 1000000000) :
    FCon Try.prog 131 [.opt [.osl 77 2 (l.map SubM.enc)], .s (.int .i64 v), .sl 3 (u.map TyI.enc)] (fun r o => r = .s (.int .i64 (bindM l v u).2) ∧ o = [.opt [.osl 77 2 ((bindM l v u).1.map SubM.enc)], .un, .un]) := by
  by_cases hv : v ∈ varsM u
  · have hd : decide (v ∈ varsM u) = true := decide_eq_true hv
    have hbm : bindM l v u = (l, 3) := by unfold bindM; rw [if_pos hv]
    rw [hbm]
    refine FCon.intro PM _ Try.func131 (by kernel_rfl) rfl _ Try.ntmps131 rfl [] (by decide +kernel) (by simp) (by simp) rfl (by first | rfl | simp only [go_sem]) ?_
    (have hWf := WFx.mk @hd; repeat' (first | refine zS ?_ | exact zE | with_reducible apply And.intro | ((with_reducible apply q_CallG); refine zG (c_varsIn u (by omega)) ?_) | ((with_reducible apply q_CallQ); refine CallQ_mk (c_varsIn u (by omega)) ?_) | refine zK (c_Contains_int (varsM u) v) ?_ | ((with_reducible intro hb0); revert hb0; with_reducible first | exact zB0 | refine zB fun hb => ?_ | fail) | ((with_reducible apply q_Meet); exact zM) | exact zC | refine zT ?_ | fail))
  · have hd : decide (v ∈ varsM u) = false := decide_eq_false hv
    have hbm : bindM l v u = (bindL l v u, if (decide (200 < u.length) || bigU (nextM l v u)) = true then 4 else 0) := by unfold bindM; rw [if_neg hv]
    rw [hbm]
    refine FCon.intro PM _ Try.func131 (by kernel_rfl) rfl _ Try.ntmps131 rfl [] (by decide +kernel) (by simp) (by simp) rfl (by first | rfl | simp only [go_sem]) ?_
    (have hWf := WFx.mk @hd; repeat' (first | refine zS ?_ | exact zE | with_reducible apply And.intro | ((with_reducible apply q_CallG); refine zG (c_varsIn u (by omega)) ?_) | ((with_reducible apply q_CallQ); refine CallQ_mk (c_varsIn u (by omega)) ?_) | refine zK (c_Contains_int (varsM u) v) ?_ | ((with_reducible intro hb0); revert hb0; with_reducible first | exact zB0 | refine zB fun hb => ?_ | fail) | ((with_reducible apply q_Meet); exact zM) | exact zC | refine zT ?_ | fail))
    refine ACL_ac (AC_fr 21 (.arr 77 2 [[.s (.int .i64 v), .sl 3 (u.map TyI.enc)]]) (by simp only [go_sem, simprocAttr]) rfl (AC_go ?_))
    simp only [go_sem, simprocAttr]
    refine AC_loop (fun n σ => ∃ k : Nat, k ≤ l.length ∧ n = l.length - k ∧ σ.t 0 = .bx 900000 0 ∧ σ.t 1 = .s (.int .i64 v) ∧ σ.t 7 = .sl 2 [[.s (.int .i64 v), .sl 3 (u.map TyI.enc)]] ∧ σ.t 8 = .s (.bool (decide (200 < u.length) || bigU (nextM (l.take k) v u))) ∧ σ.t 9 = .bs 25 2 k ∧ σ.t 29 = .bs 1900000 2 l.length ∧ σ.t 30 = .s (.int .i64 l.length) ∧ σ.t 31 = .s (.int .i64 k) ∧
      σ.b 900000 = some (.box [.bs 1900000 2 l.length]) ∧ σ.b 1900000 = some (.arr 77 2 (l.map SubM.enc)) ∧ σ.b 25 = some (.arr 77 2 ((nextM (l.take k) v u).map SubM.enc))) l.length ⟨0, by omega, by omega, ?_⟩ ?_
    · simp only [go_sem, simprocAttr, Int.natCast_zero, List.take_zero, nextM, bigU, gtLen]
    · rintro n σ ⟨k, hk, rfl, h0, h1, h7, h8, h9, h29, h30, h31, b0, b1, b2⟩ K' hK
      have hnl : (nextM (l.take k) v u).length = k := by rw [nextM_len, List.length_take]; omega
      by_cases hlt : k < l.length
      · have hx := getD_map SubM.enc l k hlt
        have he := SubM.enc_eq l[k]
        have hsk := hs l[k] (List.getElem_mem hlt)
        have hst := nextM_take v u hlt
        (have hWf := WFx.mk (And.intro @h0 <| And.intro @h1 <| And.intro @h7 <| And.intro @h8 <| And.intro @h9 <| And.intro @h29 <| And.intro @h30 <| And.intro @h31 <| And.intro @b0 <| And.intro @b1 <| And.intro @b2 <| And.intro @hx <| And.intro @he <| @hnl); repeat' (first | refine zS ?_ | exact zE | with_reducible apply And.intro | ((with_reducible apply q_CallG); refine zG (c_putI l[k].ty [⟨v, u⟩] (by omega) (by omega)) ?_) | ((with_reducible apply q_CallQ); refine CallQ_mk (c_putI l[k].ty [⟨v, u⟩] (by omega) (by omega)) ?_) | ((with_reducible intro hb0); revert hb0; with_reducible first | exact zB0 | refine zB fun hb => ?_ | fail) | ((with_reducible apply q_Meet); exact zM) | exact zC | refine zT ?_ | fail))
        refine hK (l.length - (k + 1)) _ (by omega) ⟨k + 1, by omega, rfl, ?_⟩
        simp only [go_sem, simprocAttr, h0, h1, h7, h8, h9, h29, h30, h31, b0, b1, b2, Int.natCast_succ, hst, List.map_append, SubM.enc_eq, bigU_app, Bool.or_assoc, gtLen]
      · obtain rfl : k = l.length := by omega
        rw [List.take_length] at h8 b2 hnl
        (have hWf := WFx.mk (And.intro @h0 <| And.intro @h1 <| And.intro @h7 <| And.intro @h8 <| And.intro @h9 <| And.intro @h29 <| And.intro @h30 <| And.intro @h31 <| And.intro @b0 <| And.intro @b1 <| And.intro @b2 <| @hnl); repeat' (first | refine zS ?_ | exact zE | with_reducible apply And.intro | ((with_reducible intro hb0); revert hb0; with_reducible first | exact zB0 | refine zB fun hb => ?_ | fail) | ((with_reducible apply q_Meet); exact zM) | exact zC | refine zT ?_ | fail))
        refine AC_loop (fun n σ => ∃ k : Nat, k ≤ cntU l v ∧ n = cntU l v - k ∧ σ.t 0 = .bx 900000 0 ∧ σ.t 1 = .s (.int .i64 v) ∧ σ.t 7 = .sl 2 [[.s (.int .i64 v), .sl 3 (u.map TyI.enc)]] ∧ σ.t 8 = .s (.bool (decide (200 < u.length) || bigU (nextM l v u))) ∧ σ.t 9 = .bs 25 2 l.length ∧ σ.t 12 = .s (.int .i64 k) ∧
          σ.b 900000 = some (.box [.bs 1900000 2 l.length]) ∧ σ.b 1900000 = some (.arr 77 2 (l.map SubM.enc)) ∧ σ.b 25 = some (.arr 77 2 ((nextM l v u).map SubM.enc))) (cntU l v) ⟨0, by omega, by omega, ?_⟩ ?_
        · simp only [go_sem, simprocAttr, h0, h1, h7, h8, h9, h29, h30, h31, b0, b1, b2, Int.natCast_zero]
        · rintro n σ ⟨k, hk, rfl, g0, g1, g7, g8, g9, g12, c0, c1, c2⟩ K'' hK''
          have hcl := cntU_le l v
          have hnl := nextM_len l v u
          by_cases hlt : k < l.length
          · have hlt' : k < (nextM l v u).length := by omega
            have hx := getD_map SubM.enc (nextM l v u) k hlt'
            have he := SubM.enc_eq (nextM l v u)[k]
            have hvk := nextM_v l v u k hlt'
            by_cases hlt2 : k < cntU l v
            · have hd2 : decide ((nextM l v u)[k].v < v) = true := by rw [hvk]; exact decide_eq_true (cntU_lt hlt2 hlt)
              (have hWf := WFx.mk (And.intro @g0 <| And.intro @g1 <| And.intro @g7 <| And.intro @g8 <| And.intro @g9 <| And.intro @g12 <| And.intro @c0 <| And.intro @c1 <| And.intro @c2 <| And.intro @hx <| And.intro @he <| And.intro @hd2 <| @hnl); repeat' (first | refine zS ?_ | exact zE | with_reducible apply And.intro | ((with_reducible intro hb0); revert hb0; with_reducible first | exact zB0 | refine zB fun hb => ?_ | fail) | ((with_reducible apply q_Meet); exact zM) | exact zC | refine zT ?_ | fail))
              refine hK'' (cntU l v - (k + 1)) _ (by omega) ⟨k + 1, by omega, rfl, ?_⟩
              simp only [go_sem, simprocAttr, g0, g1, g7, g8, g9, g12, c0, c1, c2, Int.natCast_succ]
            · obtain rfl : k = cntU l v := by omega
              have hd2 : decide ((nextM l v u)[cntU l v].v < v) = false := by rw [hvk]; exact decide_eq_false (cntU_at hlt)
              (have hWf := WFx.mk (And.intro @g0 <| And.intro @g1 <| And.intro @g7 <| And.intro @g8 <| And.intro @g9 <| And.intro @g12 <| And.intro @c0 <| And.intro @c1 <| And.intro @c2 <| And.intro @hx <| And.intro @he <| And.intro @hd2 <| @hnl); repeat' (first | refine zS ?_ | exact zE | with_reducible apply And.intro | ((with_reducible apply q_CallG); refine CallG_mk (c_Insert (nextM l v u) ⟨v, u⟩ (cntU l v) (by omega) (by omega)) ?_; rintro _ _ ⟨rfl, rfl⟩) | ((with_reducible apply q_CallQ); refine CallQ_mk (c_Insert (nextM l v u) ⟨v, u⟩ (cntU l v) (by omega) (by omega)) ?_) | ((with_reducible intro hb0); revert hb0; with_reducible first | exact zB0 | refine zB fun hb => ?_ | fail) | ((with_reducible apply q_Meet); exact zM) | exact zC | refine zT ?_ | fail))
              all_goals first | rfl | (clear hK'' hWf; simp_all; done) | (exact sI_congr (if_pos (by simp_all)).symm) | (exact sI_congr (if_neg (by simp_all)).symm) | fail
          · obtain rfl : k = cntU l v := by omega
            have hdl : decide (((cntU l v : Nat) : Int) < (l.length : Nat)) = false := by simp; omega
            have hx0 : (List.map SubM.enc (nextM l v u)).getD (cntU l v) [] = [] := by rw [List.getD_eq_getElem?_getD, List.getElem?_eq_none (by rw [List.length_map]; omega)]; rfl
            (have hWf := WFx.mk (And.intro @g0 <| And.intro @g1 <| And.intro @g7 <| And.intro @g8 <| And.intro @g9 <| And.intro @g12 <| And.intro @c0 <| And.intro @c1 <| And.intro @c2 <| And.intro @hnl <| And.intro @hdl <| @hx0); repeat' (first | refine zS ?_ | exact zE | with_reducible apply And.intro | ((with_reducible apply q_CallG); refine CallG_mk (c_Insert (nextM l v u) ⟨v, u⟩ (cntU l v) (by omega) (by omega)) ?_; rintro _ _ ⟨rfl, rfl⟩) | ((with_reducible apply q_CallQ); refine CallQ_mk (c_Insert (nextM l v u) ⟨v, u⟩ (cntU l v) (by omega) (by omega)) ?_) | ((with_reducible intro hb0); revert hb0; with_reducible first | exact zB0 | refine zB fun hb => ?_ | fail) | ((with_reducible apply q_Meet); exact zM) | exact zC | refine zT ?_ | fail))
            all_goals first | rfl | (clear hK'' hWf; simp_all; done) | (exact sI_congr (if_pos (by simp_all)).symm) | (exact sI_congr (if_neg (by simp_all)).symm) | fail
end Go.Proofs.Ytngobmjdbjlkcaa

/- spanOf, kidsOf of the program, l05Part of the reference, over the second engine. -/
namespace Go.Proofs.Ytngobmjdbjlkcaa
set_option linter.unusedVariables false
set_option linter.unusedSimpArgs false
open Go.RowKit
set_option maxRecDepth 100000 in
set_option maxHeartbeats 1000000 in
theorem c_spanOfA (ys : List TyI) (hi : ∀ y ∈ ys, 0 ≤ y.ar ∧ y.ar ≤ 2) (hl : ys.length ≤ 1000000) (i e : Nat) (h : endM ys i = e) : FCon Try.prog 54 [.sl 3 (ys.map TyI.enc), .s (.int .i64 i)] (fun r _ => r = .s (.int .i64 e)) := by
  have hbd := endM_bd ys i e h
  refine FCon.intro PM _ Try.func54 (by kernel_rfl) rfl _ Try.ntmps54 rfl [] (by decide +kernel) (by simp) (by simp) rfl (by first | rfl | simp only [go_sem]) ?_
  (have hWf := f0; repeat' (first | refine zS ?_ | exact zE | with_reducible apply And.intro | ((with_reducible intro hb0); revert hb0; with_reducible first | exact zB0 | refine zB fun hb => ?_ | fail) | ((with_reducible apply q_Meet); exact zM) | exact zC | refine zT ?_ | fail))
  refine AC_loop (fun n σ => ∃ m k : Nat, k ≤ ys.length ∧ n = ys.length - k ∧ σ.t 0 = .sl 3 (ys.map TyI.enc) ∧ σ.t 1 = .s (.int .i64 k) ∧ σ.t 5 = .s (.int .i64 m) ∧ endsM ys k m = e ∧ m ≤ 2 * k + 1) (ys.length - i) ⟨1, i, by omega, rfl, ?_⟩ ?_
  · simp only [go_sem, simprocAttr, Int.natCast_one]
    all_goals first | exact ⟨by rw [← endM_ends]; exact h, by omega⟩ | (rw [← endM_ends]; exact h)
  · rintro n σ ⟨m, k, hk, rfl, h0, h1, h5, he, hm⟩ K' hK
    cases m with
    | zero =>
      rw [endsM_zero] at he
      (have hWf := WFx.mk (And.intro @h0 <| And.intro @h1 <| And.intro @h5 <| @Int.natCast_zero); repeat' (first | refine zS ?_ | exact zE | with_reducible apply And.intro | ((with_reducible intro hb0); revert hb0; with_reducible first | exact zB0 | refine zB fun hb => ?_ | fail) | ((with_reducible apply q_Meet); exact zM) | exact zC | refine zT ?_ | fail))
      rw [he]
    | succ m =>
      rcases Nat.lt_or_ge k ys.length with hlt | hge
      · have hx := getD_map TyI.enc ys k hlt
        have hxe := TyI.enc_eq ys[k]
        obtain ⟨a0, a1⟩ := hi _ (List.getElem_mem hlt)
        have e1 : decide (((m + 1 : Nat) : Int) > 0) = true := by simp
        rw [endsM_step ys k m hlt] at he
        (have hWf := WFx.mk (And.intro @h0 <| And.intro @h1 <| And.intro @h5 <| And.intro @hx <| And.intro @hxe <| @e1); repeat' (first | refine zS ?_ | exact zE | with_reducible apply And.intro | ((with_reducible intro hb0); revert hb0; with_reducible first | exact zB0 | refine zB fun hb => ?_ | fail) | ((with_reducible apply q_Meet); exact zM) | exact zC | refine zT ?_ | fail))
        refine hK (ys.length - (k + 1)) _ (by omega) ⟨m + ys[k].ar.toNat, k + 1, by omega, rfl, ?_⟩
        simp only [go_sem, simprocAttr, h0, h1, h5, Int.natCast_succ]
        exact ⟨sI_congr (by omega), he, by omega⟩
      · rw [endsM_out ys k m hge] at he
        omega
set_option maxRecDepth 100000 in
set_option maxHeartbeats 2000000 in
theorem c_l05PartA (ys : List TyI) (hi : ∀ y ∈ ys, 0 ≤ y.ar ∧ y.ar ≤ 2) (hl : ys.length ≤ 1000000) (k f : Nat) (h : endM ys k = f) : FCon Try.prog 107 [.ag [.sl 3 (ys.map TyI.enc)], .s (.int .i64 k)] (fun r _ => r = .ag [.osl 31 3 ((seg ys k f).map TyI.own)]) := by
  have hbd := endM_bd ys k f h
  have hcc := c_l04End ys.length ys hi (by omega) k (by omega)
  rw [h] at hcc
  have hsg := seg_enc ys k f
  have hsl := seg_len (k := k) hbd.2.1
  refine FCon.intro PM _ Try.func107 (by kernel_rfl) rfl _ Try.ntmps107 rfl [(1, 8, [0], [(0, 1), (0, 2), (0, 3), (0, 4), (0, 5), (0, 6), (0, 7)], (lin [0] [1, 2, 3, 4, 5, 6, 7, 0]))] (by decide +kernel) (by simp) (by simp) rfl (by first | rfl | simp only [go_sem]) ?_
  (have hWf := WFx.mk (And.intro @hsg <| @hsl); repeat' (first | refine zS ?_ | exact zE | with_reducible apply And.intro | refine zK (hcc) ?_ | ((with_reducible intro hb0); revert hb0; with_reducible first | exact zB0 | refine zB fun hb => ?_ | fail) | ((with_reducible apply q_Meet); exact zM) | exact zC | refine zT ?_ | fail))
theorem c_l05PartAI (ys : List TyI) (hi : ∀ y ∈ ys, 0 ≤ y.ar ∧ y.ar ≤ 2) (hl : ys.length ≤ 1000000) (k f : Nat) (h : endM ys k = f) : FCon Try.prog 107 [.ag [.sl 3 (ys.map TyI.enc)], .s (.int .i64 k)] (fun r _ => r = .ag [.sl 3 ((seg ys k f).map TyI.enc)]) := FCon.ice ((c_l05PartA ys hi hl k f h).mono fun r o e => by
  subst e
  simp only [frA, frzL, frz, TyI.frzS, List.map_cons, List.map_nil])
/-- one type, exactly. -/
def wfT (xs : List TyI) : Prop := (∀ x ∈ xs, 0 ≤ x.ar ∧ x.ar ≤ 2) ∧ endM xs 0 = xs.length
/-- the place of the argument n; the argument. -/
def pN (xs : List TyI) (n : Nat) : Nat := (endsM xs 1 n).toNat
def kid (xs : List TyI) (n : Nat) : List TyI := seg xs (pN xs n) (pN xs (n + 1))
def kids (xs : List TyI) (m : Nat) : List (List TyI) := (List.range m).map (kid xs)
theorem wfT_pos {xs : List TyI} (h : wfT xs) : 0 < xs.length := by
  rcases Nat.eq_zero_or_pos xs.length with q | q
  · have := h.2
    rw [endM_end xs 0 (by omega), q] at this; cases this
  · exact q
theorem wfT_end {xs : List TyI} (h : wfT xs) : endsM xs 1 (xs[0]'(wfT_pos h)).ar.toNat = xs.length := by rw [← h.2, endM_step xs 0 (wfT_pos h)]
theorem pN_eq {xs : List TyI} (h : wfT xs) {n : Nat} (hn : n ≤ (xs[0]'(wfT_pos h)).ar.toNat) : endsM xs 1 n = pN xs n ∧ 1 ≤ pN xs n ∧ pN xs n ≤ xs.length := by
  have hp := wfT_pos h
  rcases endsM_bd xs 1 n (by omega) with q | ⟨m, q, q1, q2⟩
  · have := endsM_neg xs 1 n (by omega) _ hn
    rw [wfT_end h] at this; omega
  · unfold pN; rw [q]; exact ⟨by simp, by simpa using q1, by simpa using q2⟩
theorem pN_succ {xs : List TyI} (h : wfT xs) {n : Nat} (hn : n < (xs[0]'(wfT_pos h)).ar.toNat) : endM xs (pN xs n) = pN xs (n + 1) := by
  rw [← (pN_eq h (n := n + 1) (by omega)).1]
  exact (endsM_succ xs 1 n _ (pN_eq h (n := n) (by omega)).1).symm
theorem pN_zero (xs : List TyI) : pN xs 0 = 1 := by unfold pN; rw [endsM_zero]; rfl
theorem kids_len (xs : List TyI) (m : Nat) : (kids xs m).length = m := by simp [kids]
theorem kids_succ (xs : List TyI) (m : Nat) : kids xs (m + 1) = kids xs m ++ [kid xs m] := by unfold kids; rw [List.range_succ, List.map_append]; rfl
def kE (xs : List TyI) : List D := [.sl 3 (xs.map TyI.enc)]
theorem kE_eq (xs : List TyI) : kE xs = [.sl 3 (xs.map TyI.enc)] := rfl
set_option maxRecDepth 100000 in
set_option maxHeartbeats 2000000 in
theorem c_kidsOf (xs : List TyI) (hw : wfT xs) (hl : xs.length ≤ 1000000) : FCon Try.prog 132 [.sl 3 (xs.map TyI.enc)] (fun r _ => r = .osl 23 1 ((kids xs (xs[0]'(wfT_pos hw)).ar.toNat).map kE)) := by
  have hp := wfT_pos hw
  have hx0 := getD_map TyI.enc xs 0 hp
  have he0 := TyI.enc_eq xs[0]
  have hr := hw.1 _ (List.getElem_mem hp)
  have hlp : decide ((0 : Int) < xs.length) = true := by simp; omega
  refine FCon.intro PM _ Try.func132 (by kernel_rfl) rfl _ Try.ntmps132 rfl [] (by decide +kernel) (by simp) (by simp) rfl (by first | rfl | simp only [go_sem]) ?_
  (have hWf := WFx.mk (And.intro @hx0 <| And.intro @he0 <| @hlp); repeat' (first | refine zS ?_ | exact zE | with_reducible apply And.intro | ((with_reducible intro hb0); revert hb0; with_reducible first | exact zB0 | refine zB fun hb => ?_ | fail) | ((with_reducible apply q_Meet); exact zM) | exact zC | refine zT ?_ | fail))
  refine AC_loop (fun n σ => ∃ k : Nat, k ≤ xs[0].ar.toNat ∧ n = xs[0].ar.toNat - k ∧ σ.t 0 = .sl 3 (xs.map TyI.enc) ∧ σ.t 3 = .bs 6 1 k ∧ σ.t 4 = .s (.int .i64 (pN xs k)) ∧ σ.t 10 = .s (.int .i64 xs[0].ar) ∧ σ.t 11 = .s (.int .i64 k) ∧ σ.b 6 = some (.arr 23 1 ((kids xs k).map kE))) xs[0].ar.toNat ⟨0, by omega, by omega, ?_⟩ ?_
  · simp only [go_sem, simprocAttr, Int.natCast_zero, pN_zero, kids, List.range_zero]
  · rintro n σ ⟨k, hk, rfl, h0, h3, h4, h10, h11, h6⟩ K' hK
    by_cases hlt : k < xs[0].ar.toNat
    · have hs := pN_succ hw hlt
      have hq := pN_eq hw (n := k) (by omega)
      have hq1 := pN_eq hw (n := k + 1) (by omega)
      have hbd := endM_bd xs (pN xs k) _ hs
      have hsg := seg_enc xs (pN xs k) (pN xs (k + 1))
      have hkl := kids_len xs k
      (have hWf := WFx.mk (And.intro @h0 <| And.intro @h3 <| And.intro @h4 <| And.intro @h10 <| And.intro @h11 <| And.intro @h6 <| And.intro @hsg <| @hkl); repeat' (first | refine zS ?_ | exact zE | with_reducible apply And.intro | refine zK (c_spanOfA xs hw.1 hl (pN xs k) (pN xs (k + 1)) hs) ?_ | ((with_reducible intro hb0); revert hb0; with_reducible first | exact zB0 | refine zB fun hb => ?_ | fail) | ((with_reducible apply q_Meet); exact zM) | exact zC | refine zT ?_ | fail))
      refine hK (xs[0].ar.toNat - (k + 1)) _ (by omega) ⟨k + 1, by omega, rfl, ?_⟩
      simp only [go_sem, simprocAttr, h0, h3, h4, h10, h11, h6, Int.natCast_succ, kids_succ, List.map_append, kE_eq, kid]
    · obtain rfl : k = xs[0].ar.toNat := by omega
      have hkl := kids_len xs xs[0].ar.toNat
      have htk : List.take xs[0].ar.toNat (List.map kE (kids xs xs[0].ar.toNat)) = List.map kE (kids xs xs[0].ar.toNat) := List.take_of_length_le (by rw [List.length_map, kids_len]; exact Nat.le_refl _)
      (have hWf := WFx.mk (And.intro @h0 <| And.intro @h3 <| And.intro @h4 <| And.intro @h10 <| And.intro @h11 <| And.intro @h6 <| And.intro @hkl <| @htk); repeat' (first | refine zS ?_ | exact zE | with_reducible apply And.intro | ((with_reducible intro hb0); revert hb0; with_reducible first | exact zB0 | refine zB fun hb => ?_ | fail) | ((with_reducible apply q_Meet); exact zM) | exact zC | refine zT ?_ | fail))
end Go.Proofs.Ytngobmjdbjlkcaa

/- impl.solver.unify, over the second engine. -/
namespace Go.Proofs.Ytngobmjdbjlkcaa
set_option linter.unusedVariables false
set_option linter.unusedSimpArgs false
open Go.RowKit
/-- the arguments in turn, from the n-th on; each call tells the substitution and a code. -/
def foldU (f : List SubM → List TyI → List TyI → Option (List SubM × Int)) (X Y : List TyI) : Nat → Nat → List SubM → Option (List SubM × Int)
  | 0, _, l => some (l, 0)
  | m + 1, n, l => match f l (kid X n) (kid Y n) with
    | none => none
    | some r => if r.2 = 0 then foldU f X Y m (n + 1) r.1 else some r
/-- the head of two types that have had the substitution put in. -/
def headU (f : List SubM → List TyI → List TyI → Option (List SubM × Int)) (l : List SubM) (X Y : List TyI) (a b : TyI) : Option (List SubM × Int) :=
  if varB a = true then
    if varB b = true then
      if a.v = b.v then some (l, 0) else if a.v < b.v then some (bindM l b.v X) else some (bindM l a.v Y)
    else some (bindM l a.v Y)
  else if varB b = true then some (bindM l b.v X)
  else if a.name.toList ≠ b.name.toList ∨ a.ar ≠ b.ar then some (l, 2)
  else foldU f X Y a.ar.toNat 0 l
/-- the solver, by fuel. -/
def uniM : Nat → List SubM → List TyI → List TyI → Option (List SubM × Int)
  | 0, _, _, _ => none
  | n + 1, l, x, y => match (putX l x)[0]?, (putX l y)[0]? with
    | some a, some b => headU (uniM n) l (putX l x) (putX l y) a b
    | _, _ => none
/-- what the walk asks of each call. -/
def FoldOk (P : List SubM → List TyI → List TyI → Prop) (f : List SubM → List TyI → List TyI → Option (List SubM × Int)) (X Y : List TyI) : Nat → Nat → List SubM → Prop
  | 0, _, _ => True
  | m + 1, n, l => P l (kid X n) (kid Y n) ∧ ∀ l', f l (kid X n) (kid Y n) = some (l', 0) → FoldOk P f X Y m (n + 1) l'
structure UStep (l : List SubM) (x y : List TyI) : Prop where
  lx : x.length ≤ 1000000
  ly : y.length ≤ 1000000
  ll : l.length ≤ 1000000
  lX : (putX l x).length ≤ 1000000
  lY : (putX l y).length ≤ 1000000
  wX : wfT (putX l x)
  wY : wfT (putX l y)
  rise : l.Pairwise (fun a b => a.v < b.v)
  out : ∀ v, v ∈ varsM (putX l x) ∨ v ∈ varsM (putX l y) → ∀ s ∈ l, s.v ≠ v
  sm : ∀ s ∈ l, s.ty.length ≤ 1000000
  smp : ∀ (v : Int) (u : List TyI), u = putX l x ∨ u = putX l y → ∀ s ∈ l, (putX [⟨v, u⟩] s.ty).length ≤ 1000000000
def UOk : Nat → List SubM → List TyI → List TyI → Prop
  | 0, _, _, _ => False
  | n + 1, l, x, y => UStep l x y ∧ ∀ a b, (putX l x)[0]? = some a → (putX l y)[0]? = some b → varB a = false → varB b = false → a.name.toList = b.name.toList → a.ar = b.ar → FoldOk (UOk n) (uniM n) (putX l x) (putX l y) a.ar.toNat 0 l
theorem varB_t {x : TyI} (h : varB x = true) : (x.name.toList == []) = true := by unfold varB at h; simpa using h
theorem varB_f {x : TyI} (h : varB x = false) : (x.name.toList == []) = false := by unfold varB at h; simpa using h
set_option maxRecDepth 100000 in
set_option maxHeartbeats 4000000 in
theorem c_unify : ∀ (n : Nat) (l : List SubM) (x y : List TyI) (r : List SubM × Int), UOk n l x y → uniM n l x y = some r →
    FCon Try.prog 90 [.opt [.osl 77 2 (l.map SubM.enc)], .sl 3 (x.map TyI.enc), .sl 3 (y.map TyI.enc)] (fun q o => q = .s (.int .i64 r.2) ∧ o = [.opt [.osl 77 2 (r.1.map SubM.enc)], .un, .un])
  | 0, l, x, y, r, h, _ => h.elim
  | n + 1, l, x, y, r, h, hr => by
    obtain ⟨U, hk⟩ := h
    have hX := wfT_pos U.wX
    have hY := wfT_pos U.wY
    have eX := List.getElem?_eq_getElem hX
    have eY := List.getElem?_eq_getElem hY
    have ih := c_unify n
    rw [uniM, eX, eY] at hr
    replace hk := hk _ _ eX eY
    simp only at hr
    have hx0 := getD_map TyI.enc (putX l x) 0 hX
    have hy0 := getD_map TyI.enc (putX l y) 0 hY
    have px := c_put x l (by have := U.lx; omega) (by have := U.lX; omega)
    have py := c_put y l (by have := U.ly; omega) (by have := U.lY; omega)
    have hlx : decide ((0 : Int) < (putX l x).length) = true := by simp; omega
    have hly : decide ((0 : Int) < (putX l y).length) = true := by simp; omega
    obtain ⟨lX, lY, sm, smp, ll, wX, wY⟩ : (putX l x).length ≤ 1000000 ∧ (putX l y).length ≤ 1000000 ∧ (∀ s ∈ l, s.ty.length ≤ 1000000) ∧ (∀ (v : Int) (u : List TyI), u = putX l x ∨ u = putX l y → ∀ s ∈ l, (putX [⟨v, u⟩] s.ty).length ≤ 1000000000) ∧ l.length ≤ 1000000 ∧ wfT (putX l x) ∧ wfT (putX l y) := ⟨U.lX, U.lY, U.sm, U.smp, U.ll, U.wX, U.wY⟩
    generalize hXX : putX l x = X at *
    generalize hYY : putX l y = Y at *
    clear hXX hYY U
    obtain ⟨a, ha⟩ : ∃ a, a = X[0] := ⟨_, rfl⟩
    obtain ⟨b, hb0⟩ : ∃ b, b = Y[0] := ⟨_, rfl⟩
    have hea := TyI.enc_eq a
    have heb := TyI.enc_eq b
    rw [← ha] at hx0 hr hk
    rw [← hb0] at hy0 hr hk
    unfold headU at hr
    have bX : ∀ v, FCon Try.prog 131 [.opt [.osl 77 2 (l.map SubM.enc)], .s (.int .i64 v), .sl 3 (X.map TyI.enc)] (fun r o => r = .s (.int .i64 (bindM l v X).2) ∧ o = [.opt [.osl 77 2 ((bindM l v X).1.map SubM.enc)], .un, .un]) := fun v => c_bind l v X ll lX fun s hs => ⟨sm s hs, smp v X (.inl rfl) s hs⟩
    have bY : ∀ v, FCon Try.prog 131 [.opt [.osl 77 2 (l.map SubM.enc)], .s (.int .i64 v), .sl 3 (Y.map TyI.enc)] (fun r o => r = .s (.int .i64 (bindM l v Y).2) ∧ o = [.opt [.osl 77 2 ((bindM l v Y).1.map SubM.enc)], .un, .un]) := fun v => c_bind l v Y ll lY fun s hs => ⟨sm s hs, smp v Y (.inr rfl) s hs⟩
    cases hva : varB a with
    | true =>
      have ea := varB_t hva
      rw [if_pos hva] at hr
      cases hvb : varB b with
      | true =>
        have eb := varB_t hvb
        rw [if_pos hvb] at hr
        by_cases hvv : a.v = b.v
        · have e1 : (a.v == b.v) = true := by simpa using hvv
          rw [if_pos hvv] at hr
          obtain rfl : (l, 0) = r := by simpa using hr
          refine FCon.intro PM _ Try.func90 (by kernel_rfl) rfl _ Try.ntmps90 rfl [(1, 11, [], [], (lin [] [0, 1, 2, 3, 4, 5, 6, 7, 8, 9, 10])), (2, 9, [6, 7, 8], [(6, 0), (6, 1), (6, 2), (6, 3), (6, 4), (6, 5), (7, 0), (7, 1), (7, 2), (7, 3), (7, 4), (7, 5), (8, 3), (8, 4), (8, 5)], (.fl 0 (.fl 1 (.fl 2 (.fl 3 (.fl 4 (.fl 5 (.fx 6 (.fx 7 (.fx 8 .nil .no) .no) (.fx 7 (.fx 6 (.fx 8 .nil .no) .no) .no))))))))), (17, 9, [], [], (lin [] [0, 1, 2, 3, 4, 5, 6, 7, 8]))] (by decide +kernel) (by simp) (by simp) rfl (by first | rfl | simp only [go_sem]) ?_
          (have hWf := WFx.mk (And.intro @hx0 <| And.intro @hy0 <| And.intro @hea <| And.intro @heb <| And.intro @hlx <| And.intro @hly <| And.intro @ea <| And.intro @eb <| And.intro @e1 <| @lit0); repeat' (first | refine zS ?_ | exact zE | with_reducible apply And.intro | refine zK (px) ?_ | refine zK (py) ?_ | ((with_reducible intro hb0); revert hb0; with_reducible first | exact zB0 | refine zB fun hb => ?_ | fail) | ((with_reducible apply q_Meet); exact zM) | exact zC | refine zT ?_ | fail))
        · have e1 : (a.v == b.v) = false := by simpa using hvv
          rw [if_neg hvv] at hr
          by_cases hvl : a.v < b.v
          · have e2 : decide (a.v < b.v) = true := decide_eq_true hvl
            rw [if_pos hvl] at hr
            obtain rfl : bindM l b.v X = r := by simpa using hr
            refine FCon.intro PM _ Try.func90 (by kernel_rfl) rfl _ Try.ntmps90 rfl [(1, 11, [], [], (lin [] [0, 1, 2, 3, 4, 5, 6, 7, 8, 9, 10])), (2, 9, [6, 7, 8], [(6, 0), (6, 1), (6, 2), (6, 3), (6, 4), (6, 5), (7, 0), (7, 1), (7, 2), (7, 3), (7, 4), (7, 5), (8, 3), (8, 4), (8, 5)], (.fl 0 (.fl 1 (.fl 2 (.fl 3 (.fl 4 (.fl 5 (.fx 6 (.fx 7 (.fx 8 .nil .no) .no) (.fx 7 (.fx 6 (.fx 8 .nil .no) .no) .no))))))))), (17, 9, [], [], (lin [] [0, 1, 2, 3, 4, 5, 6, 7, 8]))] (by decide +kernel) (by simp) (by simp) rfl (by first | rfl | simp only [go_sem]) ?_
            (have hWf := WFx.mk (And.intro @hx0 <| And.intro @hy0 <| And.intro @hea <| And.intro @heb <| And.intro @hlx <| And.intro @hly <| And.intro @ea <| And.intro @eb <| And.intro @e1 <| And.intro @e2 <| @lit0); repeat' (first | refine zS ?_ | exact zE | with_reducible apply And.intro | refine zK (px) ?_ | refine zK (py) ?_ | ((with_reducible apply q_CallG); refine CallG_mk (bX b.v) ?_; rintro _ _ ⟨rfl, rfl⟩) | ((with_reducible apply q_CallQ); refine CallQ_mk (bX b.v) ?_) | ((with_reducible intro hb0); revert hb0; with_reducible first | exact zB0 | refine zB fun hb => ?_ | fail) | ((with_reducible apply q_Meet); exact zM) | exact zC | refine zT ?_ | fail))
          · have e2 : decide (a.v < b.v) = false := decide_eq_false hvl
            rw [if_neg hvl] at hr
            obtain rfl : bindM l a.v Y = r := by simpa using hr
            refine FCon.intro PM _ Try.func90 (by kernel_rfl) rfl _ Try.ntmps90 rfl [(1, 11, [], [], (lin [] [0, 1, 2, 3, 4, 5, 6, 7, 8, 9, 10])), (2, 9, [6, 7, 8], [(6, 0), (6, 1), (6, 2), (6, 3), (6, 4), (6, 5), (7, 0), (7, 1), (7, 2), (7, 3), (7, 4), (7, 5), (8, 3), (8, 4), (8, 5)], (.fl 0 (.fl 1 (.fl 2 (.fl 3 (.fl 4 (.fl 5 (.fx 6 (.fx 7 (.fx 8 .nil .no) .no) (.fx 7 (.fx 6 (.fx 8 .nil .no) .no) .no))))))))), (17, 9, [], [], (lin [] [0, 1, 2, 3, 4, 5, 6, 7, 8]))] (by decide +kernel) (by simp) (by simp) rfl (by first | rfl | simp only [go_sem]) ?_
            (have hWf := WFx.mk (And.intro @hx0 <| And.intro @hy0 <| And.intro @hea <| And.intro @heb <| And.intro @hlx <| And.intro @hly <| And.intro @ea <| And.intro @eb <| And.intro @e1 <| And.intro @e2 <| @lit0); repeat' (first | refine zS ?_ | exact zE | with_reducible apply And.intro | refine zK (px) ?_ | refine zK (py) ?_ | ((with_reducible apply q_CallG); refine CallG_mk (bY a.v) ?_; rintro _ _ ⟨rfl, rfl⟩) | ((with_reducible apply q_CallQ); refine CallQ_mk (bY a.v) ?_) | ((with_reducible intro hb0); revert hb0; with_reducible first | exact zB0 | refine zB fun hb => ?_ | fail) | ((with_reducible apply q_Meet); exact zM) | exact zC | refine zT ?_ | fail))
      | false =>
        have eb := varB_f hvb
        rw [if_neg (by simp [hvb])] at hr
        obtain rfl : bindM l a.v Y = r := by simpa using hr
        refine FCon.intro PM _ Try.func90 (by kernel_rfl) rfl _ Try.ntmps90 rfl [(1, 11, [], [], (lin [] [0, 1, 2, 3, 4, 5, 6, 7, 8, 9, 10])), (2, 9, [6, 7, 8], [(6, 0), (6, 1), (6, 2), (6, 3), (6, 4), (6, 5), (7, 0), (7, 1), (7, 2), (7, 3), (7, 4), (7, 5), (8, 3), (8, 4), (8, 5)], (.fl 0 (.fl 1 (.fl 2 (.fl 3 (.fl 4 (.fl 5 (.fx 6 (.fx 7 (.fx 8 .nil .no) .no) (.fx 7 (.fx 6 (.fx 8 .nil .no) .no) .no))))))))), (17, 9, [], [], (lin [] [0, 1, 2, 3, 4, 5, 6, 7, 8]))] (by decide +kernel) (by simp) (by simp) rfl (by first | rfl | simp only [go_sem]) ?_
        (have hWf := WFx.mk (And.intro @hx0 <| And.intro @hy0 <| And.intro @hea <| And.intro @heb <| And.intro @hlx <| And.intro @hly <| And.intro @ea <| And.intro @eb <| @lit0); repeat' (first | refine zS ?_ | exact zE | with_reducible apply And.intro | refine zK (px) ?_ | refine zK (py) ?_ | ((with_reducible apply q_CallG); refine CallG_mk (bY a.v) ?_; rintro _ _ ⟨rfl, rfl⟩) | ((with_reducible apply q_CallQ); refine CallQ_mk (bY a.v) ?_) | ((with_reducible intro hb0); revert hb0; with_reducible first | exact zB0 | refine zB fun hb => ?_ | fail) | ((with_reducible apply q_Meet); exact zM) | exact zC | refine zT ?_ | fail))
    | false =>
      have ea := varB_f hva
      rw [if_neg (by simp [hva])] at hr
      cases hvb : varB b with
      | true =>
        have eb := varB_t hvb
        rw [if_pos hvb] at hr
        obtain rfl : bindM l b.v X = r := by simpa using hr
        refine FCon.intro PM _ Try.func90 (by kernel_rfl) rfl _ Try.ntmps90 rfl [(1, 11, [], [], (lin [] [0, 1, 2, 3, 4, 5, 6, 7, 8, 9, 10])), (2, 9, [6, 7, 8], [(6, 0), (6, 1), (6, 2), (6, 3), (6, 4), (6, 5), (7, 0), (7, 1), (7, 2), (7, 3), (7, 4), (7, 5), (8, 3), (8, 4), (8, 5)], (.fl 0 (.fl 1 (.fl 2 (.fl 3 (.fl 4 (.fl 5 (.fx 6 (.fx 7 (.fx 8 .nil .no) .no) (.fx 7 (.fx 6 (.fx 8 .nil .no) .no) .no))))))))), (17, 9, [], [], (lin [] [0, 1, 2, 3, 4, 5, 6, 7, 8]))] (by decide +kernel) (by simp) (by simp) rfl (by first | rfl | simp only [go_sem]) ?_
        (have hWf := WFx.mk (And.intro @hx0 <| And.intro @hy0 <| And.intro @hea <| And.intro @heb <| And.intro @hlx <| And.intro @hly <| And.intro @ea <| And.intro @eb <| @lit0); repeat' (first | refine zS ?_ | exact zE | with_reducible apply And.intro | refine zK (px) ?_ | refine zK (py) ?_ | ((with_reducible apply q_CallG); refine CallG_mk (bX b.v) ?_; rintro _ _ ⟨rfl, rfl⟩) | ((with_reducible apply q_CallQ); refine CallQ_mk (bX b.v) ?_) | ((with_reducible intro hb0); revert hb0; with_reducible first | exact zB0 | refine zB fun hb => ?_ | fail) | ((with_reducible apply q_Meet); exact zM) | exact zC | refine zT ?_ | fail))
      | false =>
        have eb := varB_f hvb
        rw [if_neg (by simp [hvb])] at hr
        by_cases hnn : a.name.toList = b.name.toList
        · have e1 : (a.name.toList == b.name.toList) = true := by simpa using hnn
          by_cases har : a.ar = b.ar
          · have e2 : (a.ar != b.ar) = false := by simpa using har
            rw [if_neg (by simp [hnn, har])] at hr
            replace hk := hk hva hvb hnn har
            have kX := c_kidsOf X wX lX
            have kY := c_kidsOf Y wY lY
            rw [← ha] at kX
            rw [← hb0, ← har] at kY
            refine FCon.intro PM _ Try.func90 (by kernel_rfl) rfl _ Try.ntmps90 rfl [(1, 11, [], [], (lin [] [0, 1, 2, 3, 4, 5, 6, 7, 8, 9, 10])), (2, 9, [6, 7, 8], [(6, 0), (6, 1), (6, 2), (6, 3), (6, 4), (6, 5), (7, 0), (7, 1), (7, 2), (7, 3), (7, 4), (7, 5), (8, 3), (8, 4), (8, 5)], (.fl 0 (.fl 1 (.fl 2 (.fl 3 (.fl 4 (.fl 5 (.fx 6 (.fx 7 (.fx 8 .nil .no) .no) (.fx 7 (.fx 6 (.fx 8 .nil .no) .no) .no))))))))), (17, 9, [], [], (lin [] [0, 1, 2, 3, 4, 5, 6, 7, 8]))] (by decide +kernel) (by simp) (by simp) rfl (by first | rfl | simp only [go_sem]) ?_
            (have hWf := WFx.mk (And.intro @hx0 <| And.intro @hy0 <| And.intro @hea <| And.intro @heb <| And.intro @hlx <| And.intro @hly <| And.intro @ea <| And.intro @eb <| And.intro @e1 <| And.intro @e2 <| @lit0); repeat' (first | refine zS ?_ | exact zE | with_reducible apply And.intro | refine zK (px) ?_ | refine zK (py) ?_ | refine zK (kX) ?_ | refine zK (kY) ?_ | ((with_reducible intro hb0); revert hb0; with_reducible first | exact zB0 | refine zB fun hb => ?_ | fail) | ((with_reducible apply q_Meet); exact zM) | exact zC | refine zT ?_ | fail))
            have hm2 : a.ar.toNat ≤ 2 := by have := (wX.1 _ (List.getElem_mem hX)).2; rw [← ha] at this; omega
            generalize hm : a.ar.toNat = m at *
            have hkX := kids_len X m
            have hkY := kids_len Y m
            refine AC_loop (fun q σ => ∃ (i : Nat) (li : List SubM), i ≤ m ∧ q = m - i ∧ foldU (uniM n) X Y (m - i) i li = some r ∧ FoldOk (UOk n) (uniM n) X Y (m - i) i li ∧ σ.t 0 = .bx 900000 0 ∧ σ.t 6 = .s (.int .i64 0) ∧ σ.t 9 = .bs 1100 1 m ∧ σ.t 10 = .bs 1102 1 m ∧ σ.t 104 = .s (.int .i64 m) ∧ σ.t 105 = .s (.int .i64 i) ∧
              σ.b 900000 = some (.box [.bs 1900000 2 li.length]) ∧ σ.b 1900000 = some (.arr 77 2 (li.map SubM.enc)) ∧ σ.b 1100 = some (.arr 23 1 ((kids X m).map kE)) ∧ σ.b 1102 = some (.arr 23 1 ((kids Y m).map kE))) m ⟨0, l, by omega, by omega, hr, hk, ?_⟩ ?_
            · simp only [go_sem, simprocAttr, Int.natCast_zero, hkX, hkY]
              all_goals trace_state
            · rintro q σ ⟨i, li, hi, rfl, hr, hk, h0, h6, h9, h10, h104, h105, b0, b1, b2, b3⟩ K' hK
              by_cases hlt : i < m
              · obtain ⟨j, hj⟩ : ∃ j, m - i = j + 1 := ⟨m - i - 1, by omega⟩
                rw [hj] at hr hk
                rw [foldU] at hr
                obtain ⟨k1, k2⟩ := hk
                have hxk := getD_map kE (kids X m) i (by omega)
                have hyk := getD_map kE (kids Y m) i (by omega)
                have hxe : (kids X m)[i]'(by omega) = kid X i := by simp [kids]
                have hye : (kids Y m)[i]'(by omega) = kid Y i := by simp [kids]
                rw [hxe, kE_eq] at hxk
                rw [hye, kE_eq] at hyk
                cases hf : uniM n li (kid X i) (kid Y i) with
                | none => rw [hf] at hr; cases hr
                | some r1 =>
                  rw [hf] at hr
                  obtain ⟨l1, c1⟩ := r1
                  have hcall := ih li (kid X i) (kid Y i) (l1, c1) k1 hf
                  by_cases hc : c1 = 0
                  · have e3 : (c1 != 0) = false := by simp [hc]
                    simp only [hc, if_true] at hr
                    (have hWf := WFx.mk (And.intro @h0 <| And.intro @h6 <| And.intro @h9 <| And.intro @h10 <| And.intro @h104 <| And.intro @h105 <| And.intro @b0 <| And.intro @b1 <| And.intro @b2 <| And.intro @b3 <| And.intro @hxk <| And.intro @hyk <| And.intro @e3 <| And.intro @hkX <| @hkY); repeat' (first | refine zS ?_ | exact zE | with_reducible apply And.intro | ((with_reducible apply q_CallG); refine CallG_mk (hcall) ?_; rintro _ _ ⟨rfl, rfl⟩) | ((with_reducible apply q_CallQ); refine CallQ_mk (hcall) ?_) | ((with_reducible intro hb0); revert hb0; with_reducible first | exact zB0 | refine zB fun hb => ?_ | fail) | ((with_reducible apply q_Meet); exact zM) | exact zC | refine zT ?_ | fail))
                    refine hK (m - (i + 1)) _ (by omega) ⟨i + 1, l1, by omega, rfl, by rw [show m - (i + 1) = j by omega]; exact hr, by rw [show m - (i + 1) = j by omega]; exact k2 l1 (by rw [hf, hc]), ?_⟩
                    simp only [go_sem, simprocAttr, h0, h6, h9, h10, h104, h105, b0, b1, b2, b3, Int.natCast_succ]
                  · have e3 : (c1 != 0) = true := by simp [hc]
                    simp only [hc, if_false] at hr
                    obtain rfl : (l1, c1) = r := by simpa using hr
                    (have hWf := WFx.mk (And.intro @h0 <| And.intro @h6 <| And.intro @h9 <| And.intro @h10 <| And.intro @h104 <| And.intro @h105 <| And.intro @b0 <| And.intro @b1 <| And.intro @b2 <| And.intro @b3 <| And.intro @hxk <| And.intro @hyk <| And.intro @e3 <| And.intro @hkX <| @hkY); repeat' (first | refine zS ?_ | exact zE | with_reducible apply And.intro | ((with_reducible apply q_CallG); refine CallG_mk (hcall) ?_; rintro _ _ ⟨rfl, rfl⟩) | ((with_reducible apply q_CallQ); refine CallQ_mk (hcall) ?_) | ((with_reducible intro hb0); revert hb0; with_reducible first | exact zB0 | refine zB fun hb => ?_ | fail) | ((with_reducible apply q_Meet); exact zM) | exact zC | refine zT ?_ | fail))
              · obtain rfl : i = m := by omega
                rw [Nat.sub_self, foldU] at hr
                obtain rfl : (li, 0) = r := by simpa using hr
                (have hWf := WFx.mk (And.intro @h0 <| And.intro @h6 <| And.intro @h9 <| And.intro @h10 <| And.intro @h104 <| And.intro @h105 <| And.intro @b0 <| And.intro @b1 <| And.intro @b2 <| @b3); repeat' (first | refine zS ?_ | exact zE | with_reducible apply And.intro | ((with_reducible intro hb0); revert hb0; with_reducible first | exact zB0 | refine zB fun hb => ?_ | fail) | ((with_reducible apply q_Meet); exact zM) | exact zC | refine zT ?_ | fail))
          · have e2 : (a.ar != b.ar) = true := by simpa using har
            rw [if_pos (.inr har)] at hr
            obtain rfl : (l, 2) = r := by simpa using hr
            refine FCon.intro PM _ Try.func90 (by kernel_rfl) rfl _ Try.ntmps90 rfl [(1, 11, [], [], (lin [] [0, 1, 2, 3, 4, 5, 6, 7, 8, 9, 10])), (2, 9, [6, 7, 8], [(6, 0), (6, 1), (6, 2), (6, 3), (6, 4), (6, 5), (7, 0), (7, 1), (7, 2), (7, 3), (7, 4), (7, 5), (8, 3), (8, 4), (8, 5)], (.fl 0 (.fl 1 (.fl 2 (.fl 3 (.fl 4 (.fl 5 (.fx 6 (.fx 7 (.fx 8 .nil .no) .no) (.fx 7 (.fx 6 (.fx 8 .nil .no) .no) .no))))))))), (17, 9, [], [], (lin [] [0, 1, 2, 3, 4, 5, 6, 7, 8]))] (by decide +kernel) (by simp) (by simp) rfl (by first | rfl | simp only [go_sem]) ?_
            (have hWf := WFx.mk (And.intro @hx0 <| And.intro @hy0 <| And.intro @hea <| And.intro @heb <| And.intro @hlx <| And.intro @hly <| And.intro @ea <| And.intro @eb <| And.intro @e1 <| And.intro @e2 <| @lit0); repeat' (first | refine zS ?_ | exact zE | with_reducible apply And.intro | refine zK (px) ?_ | refine zK (py) ?_ | ((with_reducible intro hb0); revert hb0; with_reducible first | exact zB0 | refine zB fun hb => ?_ | fail) | ((with_reducible apply q_Meet); exact zM) | exact zC | refine zT ?_ | fail))
        · have e1 : (a.name.toList == b.name.toList) = false := by simpa using hnn
          rw [if_pos (.inl hnn)] at hr
          obtain rfl : (l, 2) = r := by simpa using hr
          refine FCon.intro PM _ Try.func90 (by kernel_rfl) rfl _ Try.ntmps90 rfl [(1, 11, [], [], (lin [] [0, 1, 2, 3, 4, 5, 6, 7, 8, 9, 10])), (2, 9, [6, 7, 8], [(6, 0), (6, 1), (6, 2), (6, 3), (6, 4), (6, 5), (7, 0), (7, 1), (7, 2), (7, 3), (7, 4), (7, 5), (8, 3), (8, 4), (8, 5)], (.fl 0 (.fl 1 (.fl 2 (.fl 3 (.fl 4 (.fl 5 (.fx 6 (.fx 7 (.fx 8 .nil .no) .no) (.fx 7 (.fx 6 (.fx 8 .nil .no) .no) .no))))))))), (17, 9, [], [], (lin [] [0, 1, 2, 3, 4, 5, 6, 7, 8]))] (by decide +kernel) (by simp) (by simp) rfl (by first | rfl | simp only [go_sem]) ?_
          (have hWf := WFx.mk (And.intro @hx0 <| And.intro @hy0 <| And.intro @hea <| And.intro @heb <| And.intro @hlx <| And.intro @hly <| And.intro @ea <| And.intro @eb <| And.intro @e1 <| @lit0); repeat' (first | refine zS ?_ | exact zE | with_reducible apply And.intro | refine zK (px) ?_ | refine zK (py) ?_ | ((with_reducible intro hb0); revert hb0; with_reducible first | exact zB0 | refine zB fun hb => ?_ | fail) | ((with_reducible apply q_Meet); exact zM) | exact zC | refine zT ?_ | fail))
end Go.Proofs.Ytngobmjdbjlkcaa

/- l05Bind, l05Unify of the reference, over the second engine. -/
namespace Go.Proofs.Ytngobmjdbjlkcaa
set_option linter.unusedVariables false
set_option linter.unusedSimpArgs false
open Go.RowKit
theorem c_l05ApplyI (xs : List TyI) (l : List SubM) (hl : xs.length ≤ 1000000000) (hl2 : l.length ≤ 1048576) (hu : l.Pairwise (fun a b => a.v ≠ b.v)) (hb0 : (putX l xs).length ≤ 2199023255552) : FCon Try.prog 52 [.ag [.sl 3 (xs.map TyI.enc)], .sl 2 (l.map SubM.enc)] (fun r _ => r = .ag [.sl 3 ((putX l xs).map TyI.enc)]) := FCon.ice ((c_l05Apply xs l hl hl2 hu hb0).mono fun r o e => by
  subst e
  simp only [frA, frzL, frz, TyI.frzS, List.map_cons, List.map_nil])
def outK (l : List SubM) (v : Int) (u : List TyI) (k : Nat) : List SubM := if k ≤ cntU l v then (nextM l v u).take k else insL ((nextM l v u).take k) (cntU l v) ⟨v, u⟩
theorem insL_len (l : List SubM) (i : Nat) (x : SubM) (h : i ≤ l.length) : (insL l i x).length = l.length + 1 := by
  simp only [insL, List.length_append, List.length_cons, List.length_take, List.length_drop, Nat.min_def]; split <;> omega
theorem nx_take {l : List SubM} {k : Nat} (v : Int) (u : List TyI) (h : k < l.length) : (nextM l v u).take (k + 1) = (nextM l v u).take k ++ [⟨l[k].v, putX [⟨v, u⟩] l[k].ty⟩] := by
  have h' : k < (nextM l v u).length := by rw [nextM_len]; exact h
  rw [List.take_succ_eq_append_getElem h']
  congr 2
  simp [nextM]
theorem nx_tlen {l : List SubM} {k : Nat} (v : Int) (u : List TyI) (h : k ≤ l.length) : ((nextM l v u).take k).length = k := by rw [List.length_take, nextM_len]; exact Nat.min_eq_left h
theorem outK_len {l : List SubM} {v : Int} {u : List TyI} {k : Nat} (h : k ≤ l.length) : (outK l v u k).length = if k ≤ cntU l v then k else k + 1 := by
  unfold outK
  split
  · exact nx_tlen v u h
  · rw [insL_len _ _ _ (by rw [nx_tlen v u h]; omega), nx_tlen v u h]
theorem outK_step {l : List SubM} {v : Int} {u : List TyI} {k : Nat} (h : k < l.length) (hc : k ≠ cntU l v) : outK l v u (k + 1) = outK l v u k ++ [⟨l[k].v, putX [⟨v, u⟩] l[k].ty⟩] := by
  unfold outK
  by_cases q : k < cntU l v
  · rw [if_pos (by omega), if_pos (by omega)]; exact nx_take v u h
  · rw [if_neg (by omega), if_neg (by omega), insL, insL, nx_take v u h, List.take_append_of_le_length (by rw [nx_tlen v u (by omega)]; omega), List.drop_append_of_le_length (by rw [nx_tlen v u (by omega)]; omega)]
    simp
theorem outK_at {l : List SubM} {v : Int} {u : List TyI} (h : cntU l v < l.length) : outK l v u (cntU l v + 1) = (outK l v u (cntU l v) ++ [⟨v, u⟩]) ++ [⟨l[cntU l v].v, putX [⟨v, u⟩] l[cntU l v].ty⟩] := by
  unfold outK
  rw [if_neg (by omega), if_pos (Nat.le_refl _), insL, nx_take v u h, List.take_append_of_le_length (by rw [nx_tlen v u (by omega)]; omega), List.take_of_length_le (by rw [nx_tlen v u (by omega)]; omega), List.drop_append_of_le_length (by rw [nx_tlen v u (by omega)]; omega), List.drop_of_length_le (by rw [nx_tlen v u (by omega)]; omega)]
  simp
theorem outK_end {l : List SubM} {v : Int} {u : List TyI} (h : cntU l v < l.length) : outK l v u l.length = bindL l v u := by
  unfold outK bindL
  rw [if_neg (by omega), List.take_of_length_le (by rw [nextM_len]; exact Nat.le_refl _)]
theorem outK_fin {l : List SubM} {v : Int} {u : List TyI} (h : cntU l v = l.length) : outK l v u l.length ++ [⟨v, u⟩] = bindL l v u := by
  unfold outK bindL insL
  have e : (nextM l v u).length = l.length := nextM_len l v u
  rw [if_pos (by omega), h, List.drop_of_length_le (by omega)]
theorem bigU_ins (l : List SubM) (i : Nat) (x : SubM) : bigU (insL l i x) = (decide (200 < x.ty.length) || bigU l) := by
  unfold bigU insL
  rw [List.any_append, List.any_cons]
  have : l.any (fun s => decide (200 < s.ty.length)) = ((l.take i).any (fun s => decide (200 < s.ty.length)) || (l.drop i).any (fun s => decide (200 < s.ty.length))) := by
    rw [← List.any_append, List.take_append_drop]
  rw [this]
  cases (l.take i).any (fun s => decide (200 < s.ty.length)) <;> cases decide (200 < x.ty.length) <;> simp
/-- an answer, frozen. -/
def IceR (d r : D) : Prop := frA r = d
/-- what the reference answers. -/
def ansU (r : List SubM × Int) : D := .tup [if r.2 = 0 then .sl 2 (r.1.map SubM.enc) else .nil, .s (.int .i64 r.2)]
theorem any_take_no {l : List SubM} {k : Nat} (h : k < l.length) (hn : bigU (l.take k) = false) (hk : decide (200 < l[k].ty.length) = false) : bigU (l.take (k + 1)) = false := by
  rw [List.take_succ_eq_append_getElem h, bigU_app, hn, hk]; rfl
theorem bigU_at {l : List SubM} {k : Nat} (h : k < l.length) (hk : decide (200 < l[k].ty.length) = true) : bigU l = true := List.any_eq_true.2 ⟨l[k], List.getElem_mem h, hk⟩
set_option maxRecDepth 100000 in
set_option maxHeartbeats 2000000 in
theorem c_l05Bind0 (l : List SubM) (v : Int) (u : List TyI) (hl : l.length ≤ 1000000) (hu : u.length ≤ 1000000) (hp : l.Pairwise (fun a b => a.v < b.v)) (hv0 : ∀ s ∈ l, s.v ≠ v) (hs : ∀ s ∈ l, s.ty.length ≤ 1000000 ∧ (putX [⟨v, u⟩] s.ty).length ≤ 1000000000) :
    FCon Try.prog 130 [.sl 2 (l.map SubM.enc), .s (.int .i64 v), .ag [.sl 3 (u.map TyI.enc)]] (fun r _ => IceR (ansU (bindM l v u)) r) := by
  by_cases hv : v ∈ varsM u
  · have hmem : decide (v ∈ sortM u) = true := decide_eq_true ((sortM_mem u v).2 hv)
    have hbm : bindM l v u = (l, 3) := by unfold bindM; rw [if_pos hv]
    rw [hbm]
    refine FCon.intro PM _ Try.func130 (by kernel_rfl) rfl _ Try.ntmps130 rfl [(12, 9, [], [], (lin [] [0, 1, 2, 3, 4, 5, 6, 7, 8]))] (by decide +kernel) (by simp) (by simp) rfl (by first | rfl | simp only [go_sem]) ?_
    (have hWf := WFx.mk @hmem; repeat' (first | refine zS ?_ | exact zE | with_reducible apply And.intro | ((with_reducible apply q_CallG); refine zG (c_l05Vars u (by omega)) ?_) | ((with_reducible apply q_CallQ); refine CallQ_mk (c_l05Vars u (by omega)) ?_) | refine zK (c_l05Has (sortM u) v) ?_ | ((with_reducible intro hb0); revert hb0; with_reducible first | exact zB0 | refine zB fun hb => ?_ | fail) | ((with_reducible apply q_Meet); exact zM) | exact zC | refine zT ?_ | fail))
    all_goals rfl
  · have hmem : decide (v ∈ sortM u) = false := decide_eq_false fun q => hv ((sortM_mem u v).1 q)
    have hbm : bindM l v u = (bindL l v u, if bigU (bindL l v u) = true then 4 else 0) := by unfold bindM; rw [if_neg hv, bindL, bigU_ins]
    rw [hbm]
    refine FCon.intro PM _ Try.func130 (by kernel_rfl) rfl _ Try.ntmps130 rfl [(12, 9, [], [], (lin [] [0, 1, 2, 3, 4, 5, 6, 7, 8]))] (by decide +kernel) (by simp) (by simp) rfl (by first | rfl | simp only [go_sem]) ?_
    (have hWf := WFx.mk @hmem; repeat' (first | refine zS ?_ | exact zE | with_reducible apply And.intro | ((with_reducible apply q_CallG); refine zG (c_l05Vars u (by omega)) ?_) | ((with_reducible apply q_CallQ); refine CallQ_mk (c_l05Vars u (by omega)) ?_) | refine zK (c_l05Has (sortM u) v) ?_ | ((with_reducible intro hb0); revert hb0; with_reducible first | exact zB0 | refine zB fun hb => ?_ | fail) | ((with_reducible apply q_Meet); exact zM) | exact zC | refine zT ?_ | fail))
    refine ACL_ac (AC_fr 22 (.arr 77 2 [[.s (.int .i64 v), .sl 3 (u.map TyI.enc)]]) (by simp only [go_sem, simprocAttr]) rfl (AC_go ?_))
    simp only [go_sem, simprocAttr]
    refine AC_loop (fun n σ => ∃ k : Nat, k ≤ l.length ∧ n = l.length - k ∧ σ.t 1 = .s (.int .i64 v) ∧ σ.t 8 = .sl 2 [[.s (.int .i64 v), .sl 3 (u.map TyI.enc)]] ∧ σ.t 9 = .bs 23 2 (outK l v u k).length ∧ σ.t 10 = .s (.bool (decide (cntU l v < k))) ∧ σ.t 24 = .sl 2 (l.map SubM.enc) ∧ σ.t 25 = .s (.int .i64 l.length) ∧ σ.t 26 = .s (.int .i64 k) ∧
      σ.b 23 = some (.arr 77 2 ((outK l v u k).map SubM.enc))) l.length ⟨0, by omega, by omega, ?_⟩ ?_
    · have e0 : outK l v u 0 = [] := by unfold outK; rw [if_pos (Nat.zero_le _)]; rfl
      simp only [go_sem, simprocAttr, Int.natCast_zero, e0, List.map_nil, List.length_nil, Nat.not_lt_zero]
    · rintro n σ ⟨k, hk, rfl, h1, h8, h9, h10, h24, h25, h26, b1⟩ K' hK
      have hcl := cntU_le l v
      by_cases hlt : k < l.length
      · have hx := getD_map SubM.enc l k hlt
        have he := SubM.enc_eq l[k]
        have hsk := hs l[k] (List.getElem_mem hlt)
        have hne := hv0 l[k] (List.getElem_mem hlt)
        have cA := c_l05ApplyI l[k].ty [⟨v, u⟩] (by omega) (by simp) (by simp) (by omega)
        have hol := outK_len (u := u) (v := v) (Nat.le_of_lt hlt)
        have hol1 := outK_len (u := u) (v := v) (Nat.succ_le_of_lt hlt)
        have hob : (outK l v u k).length ≤ 1000001 := by rw [hol]; split <;> omega
        rcases Nat.lt_trichotomy k (cntU l v) with q | q | q
        · have e1 : decide (cntU l v < k) = false := decide_eq_false (by omega)
          have e2 : decide (cntU l v < k + 1) = false := decide_eq_false (by omega)
          have e3 : decide (v < l[k].v) = false := decide_eq_false (by have := cntU_lt q hlt; omega)
          have hst := outK_step (u := u) hlt (by omega : k ≠ cntU l v)
          (have hWf := WFx.mk (And.intro @h1 <| And.intro @h8 <| And.intro @h9 <| And.intro @h10 <| And.intro @h24 <| And.intro @h25 <| And.intro @h26 <| And.intro @b1 <| And.intro @hx <| And.intro @he <| And.intro @e1 <| @e3); repeat' (first | refine zS ?_ | exact zE | with_reducible apply And.intro | refine zK (cA) ?_ | ((with_reducible intro hb0); revert hb0; with_reducible first | exact zB0 | refine zB fun hb => ?_ | fail) | ((with_reducible apply q_Meet); exact zM) | exact zC | refine zT ?_ | fail))
          refine hK (l.length - (k + 1)) _ (by omega) ⟨k + 1, by omega, rfl, ?_⟩
          simp only [go_sem, simprocAttr, h1, h8, h9, h10, h24, h25, h26, b1, Int.natCast_succ, hst, List.map_append, SubM.enc_eq, e1, e2, List.length_append]
        · subst q
          have e1 : decide (cntU l v < cntU l v) = false := decide_eq_false (by omega)
          have e2 : decide (cntU l v < cntU l v + 1) = true := decide_eq_true (by omega)
          have e3 : decide (v < l[cntU l v].v) = true := decide_eq_true (by have := cntU_at hlt; omega)
          have hst := outK_at (u := u) hlt
          (have hWf := WFx.mk (And.intro @h1 <| And.intro @h8 <| And.intro @h9 <| And.intro @h10 <| And.intro @h24 <| And.intro @h25 <| And.intro @h26 <| And.intro @b1 <| And.intro @hx <| And.intro @he <| And.intro @e1 <| @e3); repeat' (first | refine zS ?_ | exact zE | with_reducible apply And.intro | refine zK (cA) ?_ | ((with_reducible intro hb0); revert hb0; with_reducible first | exact zB0 | refine zB fun hb => ?_ | fail) | ((with_reducible apply q_Meet); exact zM) | exact zC | refine zT ?_ | fail))
          refine hK (l.length - (cntU l v + 1)) _ (by omega) ⟨cntU l v + 1, by omega, rfl, ?_⟩
          simp only [go_sem, simprocAttr, h1, h8, h9, h10, h24, h25, h26, b1, Int.natCast_succ, hst, List.map_append, SubM.enc_eq, e1, e2, List.length_append, List.append_assoc, Nat.add_assoc]
        · have e1 : decide (cntU l v < k) = true := decide_eq_true (by omega)
          have e2 : decide (cntU l v < k + 1) = true := decide_eq_true (by omega)
          have hst := outK_step (u := u) hlt (by omega : k ≠ cntU l v)
          (have hWf := WFx.mk (And.intro @h1 <| And.intro @h8 <| And.intro @h9 <| And.intro @h10 <| And.intro @h24 <| And.intro @h25 <| And.intro @h26 <| And.intro @b1 <| And.intro @hx <| And.intro @he <| @e1); repeat' (first | refine zS ?_ | exact zE | with_reducible apply And.intro | refine zK (cA) ?_ | ((with_reducible intro hb0); revert hb0; with_reducible first | exact zB0 | refine zB fun hb => ?_ | fail) | ((with_reducible apply q_Meet); exact zM) | exact zC | refine zT ?_ | fail))
          refine hK (l.length - (k + 1)) _ (by omega) ⟨k + 1, by omega, rfl, ?_⟩
          simp only [go_sem, simprocAttr, h1, h8, h9, h10, h24, h25, h26, b1, Int.natCast_succ, hst, List.map_append, SubM.enc_eq, e1, e2, List.length_append]
      · obtain rfl : k = l.length := by omega
        have hbl : (bindL l v u).length = l.length + 1 := by unfold bindL; rw [insL_len _ _ _ (by rw [nextM_len]; exact hcl), nextM_len]
        by_cases q : cntU l v < l.length
        · have e1 : decide (cntU l v < l.length) = true := decide_eq_true q
          rw [outK_end q] at h9 b1
          (have hWf := WFx.mk (And.intro @h1 <| And.intro @h8 <| And.intro @h9 <| And.intro @h10 <| And.intro @h24 <| And.intro @h25 <| And.intro @h26 <| And.intro @b1 <| @e1); repeat' (first | refine zS ?_ | exact zE | with_reducible apply And.intro | ((with_reducible intro hb0); revert hb0; with_reducible first | exact zB0 | refine zB fun hb => ?_ | fail) | ((with_reducible apply q_Meet); exact zM) | exact zC | refine zT ?_ | fail))
          refine AC_loop (fun n σ => ∃ k : Nat, k ≤ (bindL l v u).length ∧ n = (bindL l v u).length - k ∧ σ.t 9 = .bs 23 2 (l.length + 1) ∧ σ.t 63 = .bs 23 2 (l.length + 1) ∧ σ.t 64 = .s (.int .i64 ((l.length + 1 : Nat) : Int)) ∧ σ.t 65 = .s (.int .i64 k) ∧ σ.b 23 = some (.arr 77 2 ((bindL l v u).map SubM.enc)) ∧ bigU ((bindL l v u).take k) = false) (bindL l v u).length ⟨0, by omega, by omega, ?_⟩ ?_
          · simp only [go_sem, simprocAttr, h9, b1, hbl, Int.natCast_zero, List.take_zero]
            all_goals rfl
          · rintro n σ ⟨k, hk, rfl, h9, h63, h64, h65, b1, hno⟩ K' hK
            by_cases hlt : k < (bindL l v u).length
            · have hx := getD_map SubM.enc (bindL l v u) k hlt
              have he := SubM.enc_eq (bindL l v u)[k]
              cases e2 : decide (200 < (bindL l v u)[k].ty.length) with
              | true =>
                have e3 : decide (((bindL l v u)[k].ty.length : Int) > 200) = true := by rw [gtLen]; exact e2
                (have hWf := WFx.mk (And.intro @h9 <| And.intro @h63 <| And.intro @h64 <| And.intro @h65 <| And.intro @b1 <| And.intro @hx <| And.intro @he <| And.intro @e3 <| @hbl); repeat' (first | refine zS ?_ | exact zE | with_reducible apply And.intro | ((with_reducible intro hb0); revert hb0; with_reducible first | exact zB0 | refine zB fun hb => ?_ | fail) | ((with_reducible apply q_Meet); exact zM) | exact zC | refine zT ?_ | fail))
                all_goals (show _ = _; rw [bigU_at hlt e2]; rfl)
              | false =>
                have e3 : decide (((bindL l v u)[k].ty.length : Int) > 200) = false := by rw [gtLen]; exact e2
                (have hWf := WFx.mk (And.intro @h9 <| And.intro @h63 <| And.intro @h64 <| And.intro @h65 <| And.intro @b1 <| And.intro @hx <| And.intro @he <| And.intro @e3 <| @hbl); repeat' (first | refine zS ?_ | exact zE | with_reducible apply And.intro | ((with_reducible intro hb0); revert hb0; with_reducible first | exact zB0 | refine zB fun hb => ?_ | fail) | ((with_reducible apply q_Meet); exact zM) | exact zC | refine zT ?_ | fail))
                refine hK ((bindL l v u).length - (k + 1)) _ (by omega) ⟨k + 1, by omega, rfl, ?_⟩
                simp only [go_sem, simprocAttr, h9, h63, h64, h65, b1, Int.natCast_succ]
                exact any_take_no hlt hno e2
            · obtain rfl : k = (bindL l v u).length := by omega
              rw [List.take_length] at hno
              have htk : List.take (l.length + 1) (List.map SubM.enc (bindL l v u)) = List.map SubM.enc (bindL l v u) := List.take_of_length_le (by rw [List.length_map, hbl]; exact Nat.le_refl _)
              (have hWf := WFx.mk (And.intro @h9 <| And.intro @h63 <| And.intro @h64 <| And.intro @h65 <| And.intro @b1 <| And.intro @hbl <| @htk); repeat' (first | refine zS ?_ | exact zE | with_reducible apply And.intro | ((with_reducible intro hb0); revert hb0; with_reducible first | exact zB0 | refine zB fun hb => ?_ | fail) | ((with_reducible apply q_Meet); exact zM) | exact zC | refine zT ?_ | fail))
              all_goals (show _ = _; rw [hno]; simp only [ansU, frA, frz, SubM.frzE, List.map_cons, List.map_nil]; rfl)
        · have e1 : decide (cntU l v < l.length) = false := decide_eq_false q
          have hap := outK_fin (u := u) (by omega : cntU l v = l.length)
          have hol := outK_len (u := u) (v := v) (Nat.le_refl l.length)
          rw [if_pos (by omega)] at hol
          have hap2 : List.map SubM.enc (outK l v u l.length) ++ [[.s (.int .i64 v), .sl 3 (u.map TyI.enc)]] = List.map SubM.enc (bindL l v u) := by rw [← hap, List.map_append]; rfl
          (have hWf := WFx.mk (And.intro @h1 <| And.intro @h8 <| And.intro @h9 <| And.intro @h10 <| And.intro @h24 <| And.intro @h25 <| And.intro @h26 <| And.intro @b1 <| And.intro @e1 <| @hol); repeat' (first | refine zS ?_ | exact zE | with_reducible apply And.intro | ((with_reducible intro hb0); revert hb0; with_reducible first | exact zB0 | refine zB fun hb => ?_ | fail) | ((with_reducible apply q_Meet); exact zM) | exact zC | refine zT ?_ | fail))
          refine AC_loop (fun n σ => ∃ k : Nat, k ≤ (bindL l v u).length ∧ n = (bindL l v u).length - k ∧ σ.t 9 = .bs 23 2 (l.length + 1) ∧ σ.t 63 = .bs 23 2 (l.length + 1) ∧ σ.t 64 = .s (.int .i64 ((l.length + 1 : Nat) : Int)) ∧ σ.t 65 = .s (.int .i64 k) ∧ σ.b 23 = some (.arr 77 2 ((bindL l v u).map SubM.enc)) ∧ bigU ((bindL l v u).take k) = false) (bindL l v u).length ⟨0, by omega, by omega, ?_⟩ ?_
          · simp only [go_sem, simprocAttr, h9, b1, hbl, hap2, Int.natCast_zero, List.take_zero]
            all_goals rfl
          · rintro n σ ⟨k, hk, rfl, h9, h63, h64, h65, b1, hno⟩ K' hK
            by_cases hlt : k < (bindL l v u).length
            · have hx := getD_map SubM.enc (bindL l v u) k hlt
              have he := SubM.enc_eq (bindL l v u)[k]
              cases e2 : decide (200 < (bindL l v u)[k].ty.length) with
              | true =>
                have e3 : decide (((bindL l v u)[k].ty.length : Int) > 200) = true := by rw [gtLen]; exact e2
                (have hWf := WFx.mk (And.intro @h9 <| And.intro @h63 <| And.intro @h64 <| And.intro @h65 <| And.intro @b1 <| And.intro @hx <| And.intro @he <| And.intro @e3 <| @hbl); repeat' (first | refine zS ?_ | exact zE | with_reducible apply And.intro | ((with_reducible intro hb0); revert hb0; with_reducible first | exact zB0 | refine zB fun hb => ?_ | fail) | ((with_reducible apply q_Meet); exact zM) | exact zC | refine zT ?_ | fail))
                all_goals (show _ = _; rw [bigU_at hlt e2]; rfl)
              | false =>
                have e3 : decide (((bindL l v u)[k].ty.length : Int) > 200) = false := by rw [gtLen]; exact e2
                (have hWf := WFx.mk (And.intro @h9 <| And.intro @h63 <| And.intro @h64 <| And.intro @h65 <| And.intro @b1 <| And.intro @hx <| And.intro @he <| And.intro @e3 <| @hbl); repeat' (first | refine zS ?_ | exact zE | with_reducible apply And.intro | ((with_reducible intro hb0); revert hb0; with_reducible first | exact zB0 | refine zB fun hb => ?_ | fail) | ((with_reducible apply q_Meet); exact zM) | exact zC | refine zT ?_ | fail))
                refine hK ((bindL l v u).length - (k + 1)) _ (by omega) ⟨k + 1, by omega, rfl, ?_⟩
                simp only [go_sem, simprocAttr, h9, h63, h64, h65, b1, Int.natCast_succ]
                exact any_take_no hlt hno e2
            · obtain rfl : k = (bindL l v u).length := by omega
              rw [List.take_length] at hno
              have htk : List.take (l.length + 1) (List.map SubM.enc (bindL l v u)) = List.map SubM.enc (bindL l v u) := List.take_of_length_le (by rw [List.length_map, hbl]; exact Nat.le_refl _)
              (have hWf := WFx.mk (And.intro @h9 <| And.intro @h63 <| And.intro @h64 <| And.intro @h65 <| And.intro @b1 <| And.intro @hbl <| @htk); repeat' (first | refine zS ?_ | exact zE | with_reducible apply And.intro | ((with_reducible intro hb0); revert hb0; with_reducible first | exact zB0 | refine zB fun hb => ?_ | fail) | ((with_reducible apply q_Meet); exact zM) | exact zC | refine zT ?_ | fail))
              all_goals (show _ = _; rw [hno]; simp only [ansU, frA, frz, SubM.frzE, List.map_cons, List.map_nil]; rfl)
theorem c_l05Bind (l : List SubM) (v : Int) (u : List TyI) (hl : l.length ≤ 1000000) (hu : u.length ≤ 1000000) (hp : l.Pairwise (fun a b => a.v < b.v)) (hv0 : ∀ s ∈ l, s.v ≠ v) (hs : ∀ s ∈ l, s.ty.length ≤ 1000000 ∧ (putX [⟨v, u⟩] s.ty).length ≤ 1000000000) :
    FCon Try.prog 130 [.sl 2 (l.map SubM.enc), .s (.int .i64 v), .ag [.sl 3 (u.map TyI.enc)]] (fun r _ => r = ansU (bindM l v u)) := FCon.ice ((c_l05Bind0 l v u hl hu hp hv0 hs).mono fun _ _ h => h)
theorem ansU_z (l : List SubM) : ansU (l, 0) = .tup [.sl 2 (l.map SubM.enc), .s (.int .i64 0)] := rfl
theorem ansU_n {r : List SubM × Int} (h : r.2 ≠ 0) : ansU r = .tup [.nil, .s (.int .i64 r.2)] := by unfold ansU; rw [if_neg h]
theorem ansU_0 {r : List SubM × Int} (h : r.2 = 0) : ansU r = .tup [.sl 2 (r.1.map SubM.enc), .s (.int .i64 0)] := by unfold ansU; rw [if_pos h, h]
set_option maxRecDepth 100000 in
set_option maxHeartbeats 4000000 in
theorem c_l05Unify : ∀ (n : Nat) (l : List SubM) (x y : List TyI) (r : List SubM × Int), UOk n l x y → uniM n l x y = some r →
    FCon Try.prog 89 [.ag [.sl 3 (x.map TyI.enc)], .ag [.sl 3 (y.map TyI.enc)], .sl 2 (l.map SubM.enc)] (fun q _ => q = ansU r)
  | 0, l, x, y, r, h, _ => h.elim
  | n + 1, l, x, y, r, h, hr => by
    obtain ⟨U, hk⟩ := h
    have hX := wfT_pos U.wX
    have hY := wfT_pos U.wY
    have eX := List.getElem?_eq_getElem hX
    have eY := List.getElem?_eq_getElem hY
    have ih := c_l05Unify n
    rw [uniM, eX, eY] at hr
    replace hk := hk _ _ eX eY
    simp only at hr
    have hx0 := getD_map TyI.enc (putX l x) 0 hX
    have hy0 := getD_map TyI.enc (putX l y) 0 hY
    have hdif : l.Pairwise (fun a b => a.v ≠ b.v) := U.rise.imp fun h => by omega
    have px := c_l05ApplyI x l (by have := U.lx; omega) (by have := U.ll; omega) hdif (by have := U.lX; omega)
    have py := c_l05ApplyI y l (by have := U.ly; omega) (by have := U.ll; omega) hdif (by have := U.lY; omega)
    have hlx : decide ((0 : Int) < (putX l x).length) = true := by simp; omega
    have hly : decide ((0 : Int) < (putX l y).length) = true := by simp; omega
    have hvX : varB (putX l x)[0] = true → (putX l x)[0].v ∈ varsM (putX l x) := fun h => (varsM_mem' _ _).2 ⟨_, List.getElem_mem hX, h, rfl⟩
    have hvY : varB (putX l y)[0] = true → (putX l y)[0].v ∈ varsM (putX l y) := fun h => (varsM_mem' _ _).2 ⟨_, List.getElem_mem hY, h, rfl⟩
    obtain ⟨lX, lY, sm, smp, ll, wX, wY, rise, out⟩ : (putX l x).length ≤ 1000000 ∧ (putX l y).length ≤ 1000000 ∧ (∀ s ∈ l, s.ty.length ≤ 1000000) ∧ (∀ (v : Int) (u : List TyI), u = putX l x ∨ u = putX l y → ∀ s ∈ l, (putX [⟨v, u⟩] s.ty).length ≤ 1000000000) ∧ l.length ≤ 1000000 ∧ wfT (putX l x) ∧ wfT (putX l y) ∧ l.Pairwise (fun a b => a.v < b.v) ∧ (∀ v, v ∈ varsM (putX l x) ∨ v ∈ varsM (putX l y) → ∀ s ∈ l, s.v ≠ v) := ⟨U.lX, U.lY, U.sm, U.smp, U.ll, U.wX, U.wY, U.rise, U.out⟩
    generalize hXX : putX l x = X at *
    generalize hYY : putX l y = Y at *
    clear hXX hYY U
    obtain ⟨a, ha⟩ : ∃ a, a = X[0] := ⟨_, rfl⟩
    obtain ⟨b, hb0⟩ : ∃ b, b = Y[0] := ⟨_, rfl⟩
    have hea := TyI.enc_eq a
    have heb := TyI.enc_eq b
    rw [← ha] at hx0 hr hk hvX
    rw [← hb0] at hy0 hr hk hvY
    unfold headU at hr
    have bX : varB b = true → FCon Try.prog 130 [.sl 2 (l.map SubM.enc), .s (.int .i64 b.v), .ag [.sl 3 (X.map TyI.enc)]] (fun r _ => r = ansU (bindM l b.v X)) := fun h => c_l05Bind l b.v X ll lX rise (out _ (.inr (hvY h))) fun s hs => ⟨sm s hs, smp b.v X (.inl rfl) s hs⟩
    have bY : varB a = true → FCon Try.prog 130 [.sl 2 (l.map SubM.enc), .s (.int .i64 a.v), .ag [.sl 3 (Y.map TyI.enc)]] (fun r _ => r = ansU (bindM l a.v Y)) := fun h => c_l05Bind l a.v Y ll lY rise (out _ (.inl (hvX h))) fun s hs => ⟨sm s hs, smp a.v Y (.inr rfl) s hs⟩
    cases hva : varB a with
    | true =>
      have ea := varB_t hva
      have bY := bY hva
      rw [if_pos hva] at hr
      cases hvb : varB b with
      | true =>
        have eb := varB_t hvb
        have bX := bX hvb
        rw [if_pos hvb] at hr
        by_cases hvv : a.v = b.v
        · have e1 : (a.v == b.v) = true := by simpa using hvv
          rw [if_pos hvv] at hr
          obtain rfl : (l, 0) = r := by simpa using hr
          rw [ansU_z]
          refine FCon.intro PM _ Try.func89 (by kernel_rfl) rfl _ Try.ntmps89 rfl [(18, 12, [7], [], (lin [7] [0, 1, 2, 3, 4, 5, 6, 7, 8, 9, 10, 11]))] (by decide +kernel) (by simp) (by simp) rfl (by first | rfl | simp only [go_sem]) ?_
          (have hWf := WFx.mk (And.intro @hx0 <| And.intro @hy0 <| And.intro @hea <| And.intro @heb <| And.intro @hlx <| And.intro @hly <| And.intro @ea <| And.intro @eb <| And.intro @e1 <| @lit0); repeat' (first | refine zS ?_ | exact zE | with_reducible apply And.intro | refine zK (px) ?_ | refine zK (py) ?_ | ((with_reducible intro hb0); revert hb0; with_reducible first | exact zB0 | refine zB fun hb => ?_ | fail) | ((with_reducible apply q_Meet); exact zM) | exact zC | refine zT ?_ | fail))
        · have e1 : (a.v == b.v) = false := by simpa using hvv
          rw [if_neg hvv] at hr
          by_cases hvl : a.v < b.v
          · have e2 : decide (a.v > b.v) = false := decide_eq_false (by omega)
            rw [if_pos hvl] at hr
            obtain rfl : bindM l b.v X = r := by simpa using hr
            by_cases hz : (bindM l b.v X).2 = 0
            · rw [ansU_0 hz] at bX ⊢
              refine FCon.intro PM _ Try.func89 (by kernel_rfl) rfl _ Try.ntmps89 rfl [(18, 12, [7], [], (lin [7] [0, 1, 2, 3, 4, 5, 6, 7, 8, 9, 10, 11]))] (by decide +kernel) (by simp) (by simp) rfl (by first | rfl | simp only [go_sem]) ?_
              (have hWf := WFx.mk (And.intro @hx0 <| And.intro @hy0 <| And.intro @hea <| And.intro @heb <| And.intro @hlx <| And.intro @hly <| And.intro @ea <| And.intro @eb <| And.intro @e1 <| And.intro @e2 <| @lit0); repeat' (first | refine zS ?_ | exact zE | with_reducible apply And.intro | refine zK (px) ?_ | refine zK (py) ?_ | refine zK (bX) ?_ | ((with_reducible intro hb0); revert hb0; with_reducible first | exact zB0 | refine zB fun hb => ?_ | fail) | ((with_reducible apply q_Meet); exact zM) | exact zC | refine zT ?_ | fail))
            · rw [ansU_n hz] at bX ⊢
              refine FCon.intro PM _ Try.func89 (by kernel_rfl) rfl _ Try.ntmps89 rfl [(18, 12, [7], [], (lin [7] [0, 1, 2, 3, 4, 5, 6, 7, 8, 9, 10, 11]))] (by decide +kernel) (by simp) (by simp) rfl (by first | rfl | simp only [go_sem]) ?_
              (have hWf := WFx.mk (And.intro @hx0 <| And.intro @hy0 <| And.intro @hea <| And.intro @heb <| And.intro @hlx <| And.intro @hly <| And.intro @ea <| And.intro @eb <| And.intro @e1 <| And.intro @e2 <| @lit0); repeat' (first | refine zS ?_ | exact zE | with_reducible apply And.intro | refine zK (px) ?_ | refine zK (py) ?_ | refine zK (bX) ?_ | ((with_reducible intro hb0); revert hb0; with_reducible first | exact zB0 | refine zB fun hb => ?_ | fail) | ((with_reducible apply q_Meet); exact zM) | exact zC | refine zT ?_ | fail))
          · have e2 : decide (a.v > b.v) = true := decide_eq_true (by omega)
            rw [if_neg hvl] at hr
            obtain rfl : bindM l a.v Y = r := by simpa using hr
            by_cases hz : (bindM l a.v Y).2 = 0
            · rw [ansU_0 hz] at bY ⊢
              refine FCon.intro PM _ Try.func89 (by kernel_rfl) rfl _ Try.ntmps89 rfl [(18, 12, [7], [], (lin [7] [0, 1, 2, 3, 4, 5, 6, 7, 8, 9, 10, 11]))] (by decide +kernel) (by simp) (by simp) rfl (by first | rfl | simp only [go_sem]) ?_
              (have hWf := WFx.mk (And.intro @hx0 <| And.intro @hy0 <| And.intro @hea <| And.intro @heb <| And.intro @hlx <| And.intro @hly <| And.intro @ea <| And.intro @eb <| And.intro @e1 <| And.intro @e2 <| @lit0); repeat' (first | refine zS ?_ | exact zE | with_reducible apply And.intro | refine zK (px) ?_ | refine zK (py) ?_ | refine zK (bY) ?_ | ((with_reducible intro hb0); revert hb0; with_reducible first | exact zB0 | refine zB fun hb => ?_ | fail) | ((with_reducible apply q_Meet); exact zM) | exact zC | refine zT ?_ | fail))
            · rw [ansU_n hz] at bY ⊢
              refine FCon.intro PM _ Try.func89 (by kernel_rfl) rfl _ Try.ntmps89 rfl [(18, 12, [7], [], (lin [7] [0, 1, 2, 3, 4, 5, 6, 7, 8, 9, 10, 11]))] (by decide +kernel) (by simp) (by simp) rfl (by first | rfl | simp only [go_sem]) ?_
              (have hWf := WFx.mk (And.intro @hx0 <| And.intro @hy0 <| And.intro @hea <| And.intro @heb <| And.intro @hlx <| And.intro @hly <| And.intro @ea <| And.intro @eb <| And.intro @e1 <| And.intro @e2 <| @lit0); repeat' (first | refine zS ?_ | exact zE | with_reducible apply And.intro | refine zK (px) ?_ | refine zK (py) ?_ | refine zK (bY) ?_ | ((with_reducible intro hb0); revert hb0; with_reducible first | exact zB0 | refine zB fun hb => ?_ | fail) | ((with_reducible apply q_Meet); exact zM) | exact zC | refine zT ?_ | fail))
      | false =>
        have eb := varB_f hvb
        rw [if_neg (by simp [hvb])] at hr
        obtain rfl : bindM l a.v Y = r := by simpa using hr
        by_cases hz : (bindM l a.v Y).2 = 0
        · rw [ansU_0 hz] at bY ⊢
          refine FCon.intro PM _ Try.func89 (by kernel_rfl) rfl _ Try.ntmps89 rfl [(18, 12, [7], [], (lin [7] [0, 1, 2, 3, 4, 5, 6, 7, 8, 9, 10, 11]))] (by decide +kernel) (by simp) (by simp) rfl (by first | rfl | simp only [go_sem]) ?_
          (have hWf := WFx.mk (And.intro @hx0 <| And.intro @hy0 <| And.intro @hea <| And.intro @heb <| And.intro @hlx <| And.intro @hly <| And.intro @ea <| And.intro @eb <| @lit0); repeat' (first | refine zS ?_ | exact zE | with_reducible apply And.intro | refine zK (px) ?_ | refine zK (py) ?_ | refine zK (bY) ?_ | ((with_reducible intro hb0); revert hb0; with_reducible first | exact zB0 | refine zB fun hb => ?_ | fail) | ((with_reducible apply q_Meet); exact zM) | exact zC | refine zT ?_ | fail))
        · rw [ansU_n hz] at bY ⊢
          refine FCon.intro PM _ Try.func89 (by kernel_rfl) rfl _ Try.ntmps89 rfl [(18, 12, [7], [], (lin [7] [0, 1, 2, 3, 4, 5, 6, 7, 8, 9, 10, 11]))] (by decide +kernel) (by simp) (by simp) rfl (by first | rfl | simp only [go_sem]) ?_
          (have hWf := WFx.mk (And.intro @hx0 <| And.intro @hy0 <| And.intro @hea <| And.intro @heb <| And.intro @hlx <| And.intro @hly <| And.intro @ea <| And.intro @eb <| @lit0); repeat' (first | refine zS ?_ | exact zE | with_reducible apply And.intro | refine zK (px) ?_ | refine zK (py) ?_ | refine zK (bY) ?_ | ((with_reducible intro hb0); revert hb0; with_reducible first | exact zB0 | refine zB fun hb => ?_ | fail) | ((with_reducible apply q_Meet); exact zM) | exact zC | refine zT ?_ | fail))
    | false =>
      have ea := varB_f hva
      rw [if_neg (by simp [hva])] at hr
      cases hvb : varB b with
      | true =>
        have eb := varB_t hvb
        have bX := bX hvb
        rw [if_pos hvb] at hr
        obtain rfl : bindM l b.v X = r := by simpa using hr
        by_cases hz : (bindM l b.v X).2 = 0
        · rw [ansU_0 hz] at bX ⊢
          refine FCon.intro PM _ Try.func89 (by kernel_rfl) rfl _ Try.ntmps89 rfl [(18, 12, [7], [], (lin [7] [0, 1, 2, 3, 4, 5, 6, 7, 8, 9, 10, 11]))] (by decide +kernel) (by simp) (by simp) rfl (by first | rfl | simp only [go_sem]) ?_
          (have hWf := WFx.mk (And.intro @hx0 <| And.intro @hy0 <| And.intro @hea <| And.intro @heb <| And.intro @hlx <| And.intro @hly <| And.intro @ea <| And.intro @eb <| @lit0); repeat' (first | refine zS ?_ | exact zE | with_reducible apply And.intro | refine zK (px) ?_ | refine zK (py) ?_ | refine zK (bX) ?_ | ((with_reducible intro hb0); revert hb0; with_reducible first | exact zB0 | refine zB fun hb => ?_ | fail) | ((with_reducible apply q_Meet); exact zM) | exact zC | refine zT ?_ | fail))
        · rw [ansU_n hz] at bX ⊢
          refine FCon.intro PM _ Try.func89 (by kernel_rfl) rfl _ Try.ntmps89 rfl [(18, 12, [7], [], (lin [7] [0, 1, 2, 3, 4, 5, 6, 7, 8, 9, 10, 11]))] (by decide +kernel) (by simp) (by simp) rfl (by first | rfl | simp only [go_sem]) ?_
          (have hWf := WFx.mk (And.intro @hx0 <| And.intro @hy0 <| And.intro @hea <| And.intro @heb <| And.intro @hlx <| And.intro @hly <| And.intro @ea <| And.intro @eb <| @lit0); repeat' (first | refine zS ?_ | exact zE | with_reducible apply And.intro | refine zK (px) ?_ | refine zK (py) ?_ | refine zK (bX) ?_ | ((with_reducible intro hb0); revert hb0; with_reducible first | exact zB0 | refine zB fun hb => ?_ | fail) | ((with_reducible apply q_Meet); exact zM) | exact zC | refine zT ?_ | fail))
      | false =>
        have eb := varB_f hvb
        rw [if_neg (by simp [hvb])] at hr
        by_cases hnn : a.name.toList = b.name.toList
        · have e1 : (a.name.toList == b.name.toList) = true := by simpa using hnn
          by_cases har : a.ar = b.ar
          · have e2 : (a.ar != b.ar) = false := by simpa using har
            rw [if_neg (by simp [hnn, har])] at hr
            replace hk := hk hva hvb hnn har
            have hm2 : a.ar.toNat ≤ 2 ∧ 0 ≤ a.ar := by have := (wX.1 _ (List.getElem_mem hX)); rw [← ha] at this; omega
            have hma : a.ar = (a.ar.toNat : Int) := by omega
            have pnX := @pN_eq X wX
            have pnY := @pN_eq Y wY
            have psX := @pN_succ X wX
            have psY := @pN_succ Y wY
            rw [← ha] at pnX psX
            rw [← hb0, ← har] at pnY psY
            generalize hm : a.ar.toNat = m at *
            refine FCon.intro PM _ Try.func89 (by kernel_rfl) rfl _ Try.ntmps89 rfl [(18, 12, [7], [], (lin [7] [0, 1, 2, 3, 4, 5, 6, 7, 8, 9, 10, 11]))] (by decide +kernel) (by simp) (by simp) rfl (by first | rfl | simp only [go_sem]) ?_
            (have hWf := WFx.mk (And.intro @hx0 <| And.intro @hy0 <| And.intro @hea <| And.intro @heb <| And.intro @hlx <| And.intro @hly <| And.intro @ea <| And.intro @eb <| And.intro @e1 <| And.intro @e2 <| @lit0); repeat' (first | refine zS ?_ | exact zE | with_reducible apply And.intro | refine zK (px) ?_ | refine zK (py) ?_ | ((with_reducible intro hb0); revert hb0; with_reducible first | exact zB0 | refine zB fun hb => ?_ | fail) | ((with_reducible apply q_Meet); exact zM) | exact zC | refine zT ?_ | fail))
            refine AC_loop (fun q σ => ∃ (i : Nat) (li : List SubM), i ≤ m ∧ q = m - i ∧ foldU (uniM n) X Y (m - i) i li = some r ∧ FoldOk (UOk n) (uniM n) X Y (m - i) i li ∧ σ.t 2 = .sl 2 (li.map SubM.enc) ∧ σ.t 8 = .bx 8 0 ∧ σ.t 9 = .bx 9 0 ∧ σ.t 10 = .bx 10 0 ∧ σ.t 12 = .s (.int .i64 (pN X i)) ∧ σ.t 13 = .s (.int .i64 (pN Y i)) ∧ σ.t 14 = .s (.int .i64 i) ∧
              σ.b 8 = some (.box [.sl 3 (X.map TyI.enc)]) ∧ σ.b 9 = some (.box [.sl 3 (Y.map TyI.enc)]) ∧ σ.b 10 = some (.box [.s (.int .i64 a.v), .s (.string a.name), .s (.int .i64 m)])) m ⟨0, l, by omega, by omega, hr, hk, ?_⟩ ?_
            · simp only [go_sem, simprocAttr, Int.natCast_zero, pN_zero, hma, Int.natCast_one]
              all_goals trace_state
            · rintro q σ ⟨i, li, hi, rfl, hr, hk, h2, h8, h9, h10, h12, h13, h14, b8, b9, b10⟩ K' hK
              by_cases hlt : i < m
              · obtain ⟨j, hj⟩ : ∃ j, m - i = j + 1 := ⟨m - i - 1, by omega⟩
                rw [hj] at hr hk
                rw [foldU] at hr
                obtain ⟨k1, k2⟩ := hk
                have sX := psX hlt
                have sY := psY hlt
                have cX := c_l05PartAI X wX.1 lX (pN X i) (pN X (i + 1)) sX
                have cY := c_l05PartAI Y wY.1 lY (pN Y i) (pN Y (i + 1)) sY
                rw [show seg X (pN X i) (pN X (i + 1)) = kid X i from rfl] at cX
                rw [show seg Y (pN Y i) (pN Y (i + 1)) = kid Y i from rfl] at cY
                have zX := c_l04End X.length X wX.1 (by omega) (pN X i) (by omega)
                have zY := c_l04End Y.length Y wY.1 (by omega) (pN Y i) (by omega)
                rw [sX] at zX
                rw [sY] at zY
                have dX := pnX (n := i) hi
                have dY := pnY (n := i) hi
                cases hf : uniM n li (kid X i) (kid Y i) with
                | none => rw [hf] at hr; cases hr
                | some r1 =>
                  rw [hf] at hr
                  obtain ⟨l1, c1⟩ := r1
                  have hcall := ih li (kid X i) (kid Y i) (l1, c1) k1 hf
                  by_cases hc : c1 = 0
                  · subst hc
                    rw [ansU_z] at hcall
                    simp only [if_true] at hr
                    (have hWf := WFx.mk (And.intro @h2 <| And.intro @h8 <| And.intro @h9 <| And.intro @h10 <| And.intro @h12 <| And.intro @h13 <| And.intro @h14 <| And.intro @b8 <| And.intro @b9 <| @b10); repeat' (first | refine zS ?_ | exact zE | with_reducible apply And.intro | refine zK (cX) ?_ | refine zK (cY) ?_ | refine zK (zX) ?_ | refine zK (zY) ?_ | ((with_reducible apply q_CallE); refine CallE_mk (FCon.noout hcall) ?_) | ((with_reducible intro hb0); revert hb0; with_reducible first | exact zB0 | refine zB fun hb => ?_ | fail) | ((with_reducible apply q_Meet); exact zM) | exact zC | refine zT ?_ | fail))
                    refine hK (m - (i + 1)) _ (by omega) ⟨i + 1, l1, by omega, rfl, by rw [show m - (i + 1) = j by omega]; exact hr, by rw [show m - (i + 1) = j by omega]; exact k2 l1 hf, ?_⟩
                    simp only [go_sem, simprocAttr, h2, h8, h9, h10, h12, h13, h14, b8, b9, b10, Int.natCast_succ]
                  · have e3 : (c1 != 0) = true := by simp [hc]
                    rw [ansU_n (by exact hc)] at hcall
                    simp only [hc, if_false] at hr
                    obtain rfl : (l1, c1) = r := by simpa using hr
                    rw [ansU_n (by exact hc)]
                    (have hWf := WFx.mk (And.intro @h2 <| And.intro @h8 <| And.intro @h9 <| And.intro @h10 <| And.intro @h12 <| And.intro @h13 <| And.intro @h14 <| And.intro @b8 <| And.intro @b9 <| And.intro @b10 <| @e3); repeat' (first | refine zS ?_ | exact zE | with_reducible apply And.intro | refine zK (cX) ?_ | refine zK (cY) ?_ | ((with_reducible apply q_CallE); refine CallE_mk (FCon.noout hcall) ?_) | ((with_reducible intro hb0); revert hb0; with_reducible first | exact zB0 | refine zB fun hb => ?_ | fail) | ((with_reducible apply q_Meet); exact zM) | exact zC | refine zT ?_ | fail))
              · obtain rfl : i = m := by omega
                rw [Nat.sub_self, foldU] at hr
                obtain rfl : (li, 0) = r := by simpa using hr
                rw [ansU_z]
                (have hWf := WFx.mk (And.intro @h2 <| And.intro @h8 <| And.intro @h9 <| And.intro @h10 <| And.intro @h12 <| And.intro @h13 <| And.intro @h14 <| And.intro @b8 <| And.intro @b9 <| @b10); repeat' (first | refine zS ?_ | exact zE | with_reducible apply And.intro | ((with_reducible intro hb0); revert hb0; with_reducible first | exact zB0 | refine zB fun hb => ?_ | fail) | ((with_reducible apply q_Meet); exact zM) | exact zC | refine zT ?_ | fail))
          · have e2 : (a.ar != b.ar) = true := by simpa using har
            rw [if_pos (.inr har)] at hr
            obtain rfl : (l, 2) = r := by simpa using hr
            rw [ansU_n (by simp)]
            refine FCon.intro PM _ Try.func89 (by kernel_rfl) rfl _ Try.ntmps89 rfl [(18, 12, [7], [], (lin [7] [0, 1, 2, 3, 4, 5, 6, 7, 8, 9, 10, 11]))] (by decide +kernel) (by simp) (by simp) rfl (by first | rfl | simp only [go_sem]) ?_
            (have hWf := WFx.mk (And.intro @hx0 <| And.intro @hy0 <| And.intro @hea <| And.intro @heb <| And.intro @hlx <| And.intro @hly <| And.intro @ea <| And.intro @eb <| And.intro @e1 <| And.intro @e2 <| @lit0); repeat' (first | refine zS ?_ | exact zE | with_reducible apply And.intro | refine zK (px) ?_ | refine zK (py) ?_ | ((with_reducible intro hb0); revert hb0; with_reducible first | exact zB0 | refine zB fun hb => ?_ | fail) | ((with_reducible apply q_Meet); exact zM) | exact zC | refine zT ?_ | fail))
        · have e1 : (a.name.toList == b.name.toList) = false := by simpa using hnn
          rw [if_pos (.inl hnn)] at hr
          obtain rfl : (l, 2) = r := by simpa using hr
          rw [ansU_n (by simp)]
          refine FCon.intro PM _ Try.func89 (by kernel_rfl) rfl _ Try.ntmps89 rfl [(18, 12, [7], [], (lin [7] [0, 1, 2, 3, 4, 5, 6, 7, 8, 9, 10, 11]))] (by decide +kernel) (by simp) (by simp) rfl (by first | rfl | simp only [go_sem]) ?_
          (have hWf := WFx.mk (And.intro @hx0 <| And.intro @hy0 <| And.intro @hea <| And.intro @heb <| And.intro @hlx <| And.intro @hly <| And.intro @ea <| And.intro @eb <| And.intro @e1 <| @lit0); repeat' (first | refine zS ?_ | exact zE | with_reducible apply And.intro | refine zK (px) ?_ | refine zK (py) ?_ | ((with_reducible intro hb0); revert hb0; with_reducible first | exact zB0 | refine zB fun hb => ?_ | fail) | ((with_reducible apply q_Meet); exact zM) | exact zC | refine zT ?_ | fail))
end Go.Proofs.Ytngobmjdbjlkcaa
