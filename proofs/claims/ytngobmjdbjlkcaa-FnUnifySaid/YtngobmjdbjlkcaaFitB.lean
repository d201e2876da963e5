import Derived.Test.YtngobmjdbjlkcaaHFitsM
import Derived.Test.YtngobmjdbjlkcaaSuB
import Derived.Test.YtngobmjdbjlkcaaUniB
import Derived.Test.YtngobmjdbjlkcaaVaB
import Derived.Test.YtngobmjdbjlkcaaTxB
/- spanOf, slices.Equal, Fits of the program, over the second engine. -/
namespace Go.Proofs.Ytngobmjdbjlkcaa
set_option linter.unusedVariables false
set_option linter.unusedSimpArgs false
open Go.RowKit
theorem c_spanOf (ys : List TyI) (hi : ∀ y ∈ ys, itemM y = true) (hl : ys.length ≤ 1000000) (i e : Nat) (h : endM ys i = e) : FCon Try.prog 54 [.sl 3 (ys.map TyI.enc), .s (.int .i64 i)] (fun r _ => r = .s (.int .i64 e)) := c_spanOfA ys (fun y hy => itemM_ar (hi y hy)) hl i e h
set_option maxRecDepth 100000 in
set_option maxHeartbeats 1000000 in
theorem c_Equal_Ty (xs ys : List TyI) : FCon Try.prog 56 [.sl 3 (xs.map TyI.enc), .sl 3 (ys.map TyI.enc)] (fun r _ => r = .s (.bool (decide (xs = ys)))) := by
  refine FCon.intro PM _ Try.func56 (by kernel_rfl) rfl _ Try.ntmps56 rfl [(6, 8, [], [], (lin [] [0, 1, 2, 3, 4, 5, 6, 7]))] (by decide +kernel) (by simp) (by simp) rfl (by first | rfl | simp only [go_sem]) ?_
  refine AC_len 0 rfl trivial fun hlen => ?_
  simp only [List.length_map] at hlen
  by_cases hl : xs.length = ys.length
  · (have hWf := WFx.mk @hl; repeat' (first | refine zS ?_ | exact zE | with_reducible apply And.intro | ((with_reducible intro hb0); revert hb0; with_reducible first | exact zB0 | refine zB fun hb => ?_ | fail) | ((with_reducible apply q_Meet); exact zM) | exact zC | refine zT ?_ | fail))
    refine AC_loop (fun n σ => ∃ k : Nat, k ≤ xs.length ∧ n = xs.length - k ∧ σ.t 0 = .sl 3 (xs.map TyI.enc) ∧ σ.t 1 = .sl 3 (ys.map TyI.enc) ∧ σ.t 12 = .s (.int .i64 xs.length) ∧ σ.t 13 = .s (.int .i64 k) ∧ xs.take k = ys.take k) xs.length ⟨0, by omega, by omega, ?_⟩ ?_
    · simp only [go_sem, simprocAttr, hl, Int.natCast_zero]
      all_goals simp
    · rintro n σ ⟨k, hk, rfl, h0, h1, h12, h13, he⟩ K' hK
      by_cases hlt : k < xs.length
      · have hx := getD_map TyI.enc xs k hlt
        have hy := getD_map TyI.enc ys k (by omega)
        have hxe := TyI.enc_eq xs[k]
        have hye := TyI.enc_eq ys[k]
        have hlI : (xs.length : Int) = ys.length := by omega
        (have hWf := WFx.mk (And.intro @h0 <| And.intro @h1 <| And.intro @h12 <| And.intro @h13 <| And.intro @hx <| And.intro @hy <| And.intro @hxe <| @hye); repeat' (first | refine zS ?_ | exact zE | with_reducible apply And.intro | ((with_reducible intro hb0); revert hb0; with_reducible first | exact zB0 | refine zB fun hb => ?_ | fail) | ((with_reducible apply q_Meet); exact zM) | exact zC | refine zT ?_ | fail))
        all_goals first
          | (refine hK (xs.length - (k + 1)) _ (by omega) ⟨k + 1, by omega, rfl, ?_⟩
             simp only [go_sem, simprocAttr, h0, h1, h12, h13, Int.natCast_succ]
             rw [List.take_succ_eq_append_getElem hlt, List.take_succ_eq_append_getElem (by omega : k < ys.length), he]
             congr 2
             exact (itemB_iff _ _).1 (by simpa [itemB] using hb))
          | (refine sB ?_
             symm
             refine decide_eq_false fun h => ?_
             subst h
             simp at hb)
      · obtain rfl : k = xs.length := by omega
        (have hWf := WFx.mk (And.intro @h0 <| And.intro @h1 <| And.intro @h12 <| @h13); repeat' (first | refine zS ?_ | exact zE | with_reducible apply And.intro | ((with_reducible intro hb0); revert hb0; with_reducible first | exact zB0 | refine zB fun hb => ?_ | fail) | ((with_reducible apply q_Meet); exact zM) | exact zC | refine zT ?_ | fail))
        refine sB ?_
        symm
        refine decide_eq_true ?_
        rw [List.take_length, hl, List.take_length] at he; exact he
  · have hne : ((xs.length : Int) != (ys.length : Int)) = true := by simp only [bne_iff_ne, ne_eq]; omega
    (have hWf := WFx.mk @hne; repeat' (first | refine zS ?_ | exact zE | with_reducible apply And.intro | ((with_reducible intro hb0); revert hb0; with_reducible first | exact zB0 | refine zB fun hb => ?_ | fail) | ((with_reducible apply q_Meet); exact zM) | exact zC | refine zT ?_ | fail))
    exact sB (decide_eq_false (fun h => hl (by rw [h]))).symm
theorem natI_nge {a b : Nat} (h : ¬ b ≤ a) : decide ((a : Int) ≥ (b : Int)) = false := by simp; omega
theorem sub_frz (l : List SubM) : frzLL (l.map SubM.enc) = l.map SubM.enc := frz_rows (fun _ => rfl) l
set_option maxRecDepth 100000 in
set_option maxHeartbeats 4000000 in
theorem c_implFits (xs ys : List TyI) (hox : ∀ x ∈ xs, x.ok) (hoy : ∀ y ∈ ys, y.ok) (hlx : xs.length ≤ 1048576) (hly : ys.length ≤ 1048576) : FCon Try.prog 12 [.ag [.sl 3 (xs.map TyI.enc)], .ag [.sl 3 (ys.map TyI.enc)]] (fun r _ => r = .s (.bool (fitsM xs ys))) := by
  cases hTX : tyOkM xs with
  | false =>
    have hf : fitsM xs ys = false := by unfold fitsM; rw [hTX]; rfl
    refine FCon.intro PM _ Try.func12 (by kernel_rfl) rfl _ Try.ntmps12 rfl [(11, 6, [], [], (lin [] [0, 1, 2, 3, 4, 5]))] (by decide +kernel) (by simp) (by simp) rfl (by first | rfl | simp only [go_sem]) ?_
    (have hWf := WFx.mk @hTX; repeat' (first | refine zS ?_ | exact zE | with_reducible apply And.intro | ((with_reducible apply q_CallG); refine zG (c_implTyOk xs hox (by omega)) ?_) | ((with_reducible apply q_CallQ); refine CallQ_mk (c_implTyOk xs hox (by omega)) ?_) | ((with_reducible apply q_CallG); refine zG (c_implTyOk ys hoy (by omega)) ?_) | ((with_reducible apply q_CallQ); refine CallQ_mk (c_implTyOk ys hoy (by omega)) ?_) | ((with_reducible intro hb0); revert hb0; with_reducible first | exact zB0 | refine zB fun hb => ?_ | fail) | ((with_reducible apply q_Meet); exact zM) | exact zC | refine zT ?_ | fail))
    all_goals exact sB hf.symm
  | true =>
  cases hTY : tyOkM ys with
  | false =>
    have hf : fitsM xs ys = false := by unfold fitsM; rw [hTX, hTY]; rfl
    refine FCon.intro PM _ Try.func12 (by kernel_rfl) rfl _ Try.ntmps12 rfl [(11, 6, [], [], (lin [] [0, 1, 2, 3, 4, 5]))] (by decide +kernel) (by simp) (by simp) rfl (by first | rfl | simp only [go_sem]) ?_
    (have hWf := WFx.mk (And.intro @hTX <| @hTY); repeat' (first | refine zS ?_ | exact zE | with_reducible apply And.intro | ((with_reducible apply q_CallG); refine zG (c_implTyOk xs hox (by omega)) ?_) | ((with_reducible apply q_CallQ); refine CallQ_mk (c_implTyOk xs hox (by omega)) ?_) | ((with_reducible apply q_CallG); refine zG (c_implTyOk ys hoy (by omega)) ?_) | ((with_reducible apply q_CallQ); refine CallQ_mk (c_implTyOk ys hoy (by omega)) ?_) | ((with_reducible intro hb0); revert hb0; with_reducible first | exact zB0 | refine zB fun hb => ?_ | fail) | ((with_reducible apply q_Meet); exact zM) | exact zC | refine zT ?_ | fail))
    all_goals exact sB hf.symm
  | true =>
    obtain ⟨hix, hex, hxl⟩ := tyOkM_all hTX
    obtain ⟨hiy, hey, hyl⟩ := tyOkM_all hTY
    have hrun := fitsM_run hTX hTY
    refine FCon.intro PM _ Try.func12 (by kernel_rfl) rfl _ Try.ntmps12 rfl [(11, 6, [], [], (lin [] [0, 1, 2, 3, 4, 5]))] (by decide +kernel) (by simp) (by simp) rfl (by first | rfl | simp only [go_sem]) ?_
    (have hWf := WFx.mk (And.intro @hTX <| @hTY); repeat' (first | refine zS ?_ | exact zE | with_reducible apply And.intro | ((with_reducible apply q_CallG); refine zG (c_implTyOk xs hox (by omega)) ?_) | ((with_reducible apply q_CallQ); refine CallQ_mk (c_implTyOk xs hox (by omega)) ?_) | ((with_reducible apply q_CallG); refine zG (c_implTyOk ys hoy (by omega)) ?_) | ((with_reducible apply q_CallQ); refine CallQ_mk (c_implTyOk ys hoy (by omega)) ?_) | ((with_reducible intro hb0); revert hb0; with_reducible first | exact zB0 | refine zB fun hb => ?_ | fail) | ((with_reducible apply q_Meet); exact zM) | exact zC | refine zT ?_ | fail))
    refine AC_loop (fun n σ => ∃ (k p m : Nat) (l : List SubM), k ≤ xs.length ∧ n = xs.length - k ∧ runF ys (xs.take k) 0 [] = some (p, l) ∧ endsM xs k m = xs.length ∧ endsM ys p m = ys.length ∧ l.length ≤ k ∧
      σ.t 2 = .bx 2 0 ∧ σ.t 3 = .bx 3 0 ∧ σ.b 2 = some (.box [.sl 3 (xs.map TyI.enc)]) ∧ σ.b 3 = some (.box [.sl 3 (ys.map TyI.enc)]) ∧ σ.t 5 = .bs 20 2 l.length ∧ σ.b 20 = some (.arr 77 2 (l.map SubM.enc)) ∧ σ.t 6 = .s (.int .i64 p) ∧ σ.t 22 = .sl 3 (xs.map TyI.enc) ∧ σ.t 23 = .s (.int .i64 xs.length) ∧ σ.t 24 = .s (.int .i64 k)) xs.length ⟨0, 0, 1, [], by omega, by omega, rfl, hex, hey, by simp, ?_⟩ ?_
    · simp only [go_sem, simprocAttr, Int.natCast_zero, List.map_nil, List.length_nil]
    · rintro n σ ⟨k, p, m, l, hk, rfl, hr, hdx, hdy, hll, h2, h3, hb2, hb3, h5, hb5, h6, h22, h23, h24⟩ K' hK
      by_cases hlt : k < xs.length
      · obtain ⟨m, rfl⟩ : ∃ m', m = m' + 1 := by
          cases m with
          | zero => rw [endsM_zero] at hdx; omega
          | succ m => exact ⟨m, rfl⟩
        have hp := due_lt hdy
        obtain ⟨f, hf, hfd⟩ := due_end hdy
        have hfb := endM_bd ys p f hf
        have hx := getD_map TyI.enc xs k hlt
        have hxe := TyI.enc_eq xs[k]
        have hy := getD_map TyI.enc ys p hp
        have hye := TyI.enc_eq ys[p]
        have hsg := seg_enc ys p f
        have hge := natI_nge (a := p) (b := ys.length) (by omega)
        have hik := hix _ (List.getElem_mem hlt)
        have hstep := runF_take (ys := ys) hlt
        rw [hr] at hstep
        simp only [Option.bind_some] at hstep
        have hdx' : endsM xs (k + 1) (m + xs[k].ar.toNat) = xs.length := by rw [← endsM_step xs k m hlt]; exact hdx
        cases hv : xs[k].name.toList.isEmpty with
        | false =>
          have e1 : (xs[k].name.toList == []) = false := by
            cases hq : xs[k].name.toList with
            | nil => rw [hq] at hv; cases hv
            | cons _ _ => rfl
          (have hWf := WFx.mk (And.intro @h2 <| And.intro @h3 <| And.intro @hb2 <| And.intro @hb3 <| And.intro @h5 <| And.intro @hb5 <| And.intro @h6 <| And.intro @h22 <| And.intro @h23 <| And.intro @h24 <| And.intro @hx <| And.intro @hxe <| And.intro @hy <| And.intro @hye <| And.intro @hge <| And.intro @lit0 <| @e1); repeat' (first | refine zS ?_ | exact zE | with_reducible apply And.intro | ((with_reducible intro hb0); revert hb0; with_reducible first | exact zB0 | refine zB fun hb => ?_ | fail) | ((with_reducible apply q_Meet); exact zM) | exact zC | refine zT ?_ | fail))
          · have hne : xs[k] ≠ ys[p] := fun e => by
              have := (itemB_iff _ _).2 e
              simp only [itemB, Bool.and_true, Bool.and_eq_true, beq_iff_eq] at this
              simp [this.1, this.2.1, this.2.2] at hb
            exact sB (by rw [hrun, runF_stop (by rw [hstep]; exact stepF_ne hp hv hne)]; rfl)
          · have heq : xs[k] = ys[p] := (itemB_iff _ _).1 (by simp only [itemB, Bool.and_true, Bool.and_eq_true, beq_iff_eq]; simpa using hb)
            refine hK (xs.length - (k + 1)) _ (by omega) ⟨k + 1, p + 1, m + xs[k].ar.toNat, l, by omega, rfl, ?_, hdx', ?_, by omega, ?_⟩
            · rw [hstep]; exact stepF_eq hp hv heq
            · rw [heq, ← endsM_step ys p m hp]; exact hdy
            · simp only [go_sem, simprocAttr, h2, h3, hb2, hb3, h5, hb5, h6, h22, h23, h24, Int.natCast_succ]
        | true =>
          have e1 : (xs[k].name.toList == []) = true := by
            have hq : xs[k].name.toList = [] := by simpa using hv
            rw [hq]; rfl
          have har := item_ar0 hik hv
          rw [har] at hdx'
          have hseg : (((ys.map TyI.enc).take f).drop p) = (seg ys p f).map TyI.enc := hsg
          rcases fidx_findF (fun s => s.v == xs[k].v) l with ⟨hfi, hfn⟩ | ⟨j, hj, hfi, hfn⟩
          · (have hWf := WFx.mk (And.intro @h2 <| And.intro @h3 <| And.intro @hb2 <| And.intro @hb3 <| And.intro @h5 <| And.intro @hb5 <| And.intro @h6 <| And.intro @h22 <| And.intro @h23 <| And.intro @h24 <| And.intro @hx <| And.intro @hxe <| And.intro @hge <| And.intro @lit0 <| And.intro @e1 <| And.intro @hseg <| And.intro @hfi <| @sub_frz); repeat' (first | refine zS ?_ | exact zE | with_reducible apply And.intro | ((with_reducible apply q_CallG); refine zG (c_spanOf ys hiy (by omega) p f hf) ?_) | ((with_reducible apply q_CallQ); refine CallQ_mk (c_spanOf ys hiy (by omega) p f hf) ?_) | refine zK (c_subAt l xs[k].v) ?_ | ((with_reducible intro hb0); revert hb0; with_reducible first | exact zB0 | refine zB fun hb => ?_ | fail) | ((with_reducible apply q_Meet); exact zM) | exact zC | refine zT ?_ | fail))
            refine hK (xs.length - (k + 1)) _ (by omega) ⟨k + 1, f, m, l ++ [⟨xs[k].v, seg ys p f⟩], by omega, rfl, ?_, hdx', hfd, by simp; omega, ?_⟩
            · rw [hstep]; exact stepF_new hp hv hf hfn
            · simp only [go_sem, simprocAttr, h2, h3, hb2, hb3, h5, hb5, h6, h22, h23, h24, Int.natCast_succ, List.map_append, List.length_append, SubM.enc_eq]
              all_goals trace_state
          · have hj' := getD_map SubM.enc l j hj
            have hje := SubM.enc_eq l[j]
            (have hWf := WFx.mk (And.intro @h2 <| And.intro @h3 <| And.intro @hb2 <| And.intro @hb3 <| And.intro @h5 <| And.intro @hb5 <| And.intro @h6 <| And.intro @h22 <| And.intro @h23 <| And.intro @h24 <| And.intro @hx <| And.intro @hxe <| And.intro @hge <| And.intro @lit0 <| And.intro @e1 <| And.intro @hseg <| And.intro @hfi <| And.intro @sub_frz <| And.intro @hj' <| @hje); repeat' (first | refine zS ?_ | exact zE | with_reducible apply And.intro | ((with_reducible apply q_CallG); refine zG (c_spanOf ys hiy (by omega) p f hf) ?_) | ((with_reducible apply q_CallQ); refine CallQ_mk (c_spanOf ys hiy (by omega) p f hf) ?_) | refine zK (c_subAt l xs[k].v) ?_ | refine zK (c_Equal_Ty l[j].ty (seg ys p f)) ?_ | ((with_reducible intro hb0); revert hb0; with_reducible first | exact zB0 | refine zB fun hb => ?_ | fail) | ((with_reducible apply q_Meet); exact zM) | exact zC | refine zT ?_ | fail))
            · have hne : ¬ l[j].ty = seg ys p f := by simpa using hb
              exact sB (by rw [hrun, runF_stop (by rw [hstep, stepF_old hp hv hf hfn, if_neg hne])]; rfl)
            · have heq : l[j].ty = seg ys p f := by simpa using hb
              refine hK (xs.length - (k + 1)) _ (by omega) ⟨k + 1, f, m, l, by omega, rfl, ?_, hdx', hfd, by omega, ?_⟩
              · rw [hstep, stepF_old hp hv hf hfn, if_pos heq]
              · simp only [go_sem, simprocAttr, h2, h3, hb2, hb3, h5, hb5, h6, h22, h23, h24, Int.natCast_succ]
      · obtain rfl : k = xs.length := by omega
        (have hWf := WFx.mk (And.intro @h2 <| And.intro @h3 <| And.intro @hb2 <| And.intro @hb3 <| And.intro @h5 <| And.intro @hb5 <| And.intro @h6 <| And.intro @h22 <| And.intro @h23 <| @h24); repeat' (first | refine zS ?_ | exact zE | with_reducible apply And.intro | ((with_reducible intro hb0); revert hb0; with_reducible first | exact zB0 | refine zB fun hb => ?_ | fail) | ((with_reducible apply q_Meet); exact zM) | exact zC | refine zT ?_ | fail))
        refine sB ?_
        rw [hrun]
        rw [List.take_length] at hr
        rw [hr]; rfl
end Go.Proofs.Ytngobmjdbjlkcaa

/- TyCanon and PrintTy of the program, over the second engine. -/
namespace Go.Proofs.Ytngobmjdbjlkcaa
set_option linter.unusedVariables false
set_option linter.unusedSimpArgs false
open Go.RowKit
theorem tyS_of2 {S : Nat → Prop} {up : Nat → Option Pos} {w : World} {v : Value} {xs : List TyI} (h : Rep S up w none (.sl 3 (xs.map TyI.enc)) v) (ho : ∀ x ∈ xs, x.ok) : TyS (hp w) v xs :=
  Rep.slOf (enc := TyI.enc) (k := 3) (R := tyR) (fun _ _ => rfl) (by decide) (fun r x hx hr => by
    obtain ⟨h1, h2⟩ := hr
    match r, h1 with
    | [a, b, c], _ =>
      have e0 := Rep.s_inv (h2 0 _ a rfl rfl)
      have e1 := Rep.s_inv (h2 1 _ b rfl rfl)
      have e2 := Rep.s_inv (h2 2 _ c rfl rfl)
      subst e0 e1 e2
      exact ⟨rfl, ho x hx⟩) h
theorem c_implPrintTy (xs : List TyI) (ho : ∀ x ∈ xs, x.ok) (hl : xs.length ≤ 1000000000) : FCon Try.prog 14 [.ag [.sl 3 (xs.map TyI.enc)]] (fun r _ => r = .s (.string (bs (printTyM xs)))) := by
  refine FCon.ofBelow (Rv := fun v => v = .string (bs (printTyM xs))) Try.func14 rfl rfl ?_ rfl ?_
  · rintro _ rfl; exact ⟨rfl, rfl⟩
  · intro w S up vs hl' hv
    obtain ⟨v, rfl, h'⟩ := one_arg (P := fun _ d u => RB S up w d u) hl' hv
    obtain ⟨u, rfl, hu⟩ := ag_one h'
    exact (impl_PrintTy w _ (Sub.self w) u xs (tyS_of2 hu ho) hl).mono fun e w' h => ⟨_, h.1, rfl, h.2⟩
set_option maxRecDepth 100000 in
set_option maxHeartbeats 1000000 in
theorem c_Clone_Ty (xs : List TyI) (hne : 0 < xs.length) (hl : xs.length ≤ 1000000000) : FCon Try.prog 91 [.sl 3 (xs.map TyI.enc)] (fun r _ => r = .osl 31 3 (xs.map TyI.own)) := by
  have he : (xs.map TyI.enc).isEmpty = false := by cases xs with | nil => simp at hne | cons _ _ => rfl
  refine FCon.intro PM _ Try.func91 (by kernel_rfl) rfl _ Try.ntmps91 rfl [] (by decide +kernel) (by simp) (by simp) rfl (by first | rfl | simp only [go_sem]) ?_
  (have hWf := WFx.mk @he; repeat' (first | refine zS ?_ | exact zE | with_reducible apply And.intro | ((with_reducible intro hb0); revert hb0; with_reducible first | exact zB0 | refine zB fun hb => ?_ | fail) | ((with_reducible apply q_Meet); exact zM) | exact zC | refine zT ?_ | fail))
  all_goals exact ⟨_, rfl⟩
theorem fidx_idxN : ∀ (l : List Int) (v : Int), v ∈ l → fidx (fun x => v == x) l = (idxN l v : Nat)
  | [], v, h => by cases h
  | y :: l, v, h => by
    by_cases e : y = v
    · subst e
      rw [fidx, if_pos (by simp), idxN, if_pos rfl]; rfl
    · have hm : v ∈ l := by
        rcases List.mem_cons.1 h with q | q
        · exact absurd q.symm e
        · exact q
      have ih := fidx_idxN l v hm
      have e' : ¬ (v == y) = true := by simp; exact fun q => e q.symm
      rw [fidx, if_neg e', ih, if_neg (by omega), idxN, if_neg e]; rfl
/-- the first k items renamed. -/
def mixC (xs : List TyI) (k : Nat) : List TyI := (canonM xs).take k ++ xs.drop k
theorem canonM_len' (xs : List TyI) : (canonM xs).length = xs.length := by simp [canonM]
theorem mixC_len (xs : List TyI) {k : Nat} (h : k ≤ xs.length) : (mixC xs k).length = xs.length := by
  unfold mixC; rw [List.length_append, List.length_take, List.length_drop, canonM_len']; omega
theorem mixC_zero (xs : List TyI) : mixC xs 0 = xs := by simp [mixC]
theorem mixC_all (xs : List TyI) : mixC xs xs.length = canonM xs := by
  unfold mixC; rw [List.drop_length, List.append_nil, ← canonM_len', List.take_length]
theorem mixC_at (xs : List TyI) {k : Nat} (h : k < xs.length) : (mixC xs k)[k]'(by rw [mixC_len xs (by omega)]; exact h) = xs[k] := by
  have h1 : ((canonM xs).take k).length = k := by rw [List.length_take, canonM_len']; omega
  have e : (mixC xs k)[k]? = some xs[k] := by
    unfold mixC
    rw [List.getElem?_append_right (by omega), h1, Nat.sub_self, List.getElem?_drop, Nat.add_zero, List.getElem?_eq_getElem h]
  exact (List.getElem?_eq_some_iff.1 e).2
theorem mixC_set (xs : List TyI) {k : Nat} (h : k < xs.length) : (mixC xs k).set k (canonI (varsM xs) xs[k]) = mixC xs (k + 1) := by
  have h1 : ((canonM xs).take k).length = k := by rw [List.length_take, canonM_len']; omega
  have h2 : (canonM xs)[k]'(by rw [canonM_len']; exact h) = canonI (varsM xs) xs[k] := by simp [canonM]
  unfold mixC
  rw [List.set_append_right _ _ (by omega), h1, Nat.sub_self, List.drop_eq_getElem_cons h, List.set_cons_zero, List.take_succ_eq_append_getElem (by rw [canonM_len']; exact h), h2]
  simp
theorem mixC_same (xs : List TyI) {k : Nat} (h : k < xs.length) (hb : varB xs[k] = false) : mixC xs (k + 1) = mixC xs k := by
  rw [← mixC_set xs h]
  have e : canonI (varsM xs) xs[k] = xs[k] := by unfold canonI; rw [if_neg (by rw [hb]; simp)]
  rw [e]
  have e2 : (mixC xs k).set k ((mixC xs k)[k]'(by rw [mixC_len xs (by omega)]; exact h)) = mixC xs k := List.set_getElem_self _
  rw [mixC_at xs h] at e2
  exact e2
set_option maxRecDepth 100000 in
set_option maxHeartbeats 1000000 in
theorem c_canon (xs : List TyI) (hne : 0 < xs.length) (hl : xs.length ≤ 1000000) : FCon Try.prog 100 [.sl 3 (xs.map TyI.enc)] (fun r _ => r = .ag [.osl 31 3 ((canonM xs).map TyI.own)]) := by
  have hvl := varsM_len' xs
  refine FCon.intro PM _ Try.func100 (by kernel_rfl) rfl _ Try.ntmps100 rfl [] (by decide +kernel) (by simp) (by simp) rfl (by first | rfl | simp only [go_sem]) ?_
  (have hWf := f0; repeat' (first | refine zS ?_ | exact zE | with_reducible apply And.intro | ((with_reducible apply q_CallG); refine zG (c_varsIn xs (by omega)) ?_) | ((with_reducible apply q_CallQ); refine CallQ_mk (c_varsIn xs (by omega)) ?_) | ((with_reducible apply q_CallG); refine zG (c_Clone_Ty xs hne (by omega)) ?_) | ((with_reducible apply q_CallQ); refine CallQ_mk (c_Clone_Ty xs hne (by omega)) ?_) | ((with_reducible intro hb0); revert hb0; with_reducible first | exact zB0 | refine zB fun hb => ?_ | fail) | ((with_reducible apply q_Meet); exact zM) | exact zC | refine zT ?_ | fail))
  refine AC_loop (fun n σ => ∃ k : Nat, k ≤ xs.length ∧ n = xs.length - k ∧ σ.t 2 = .bx 2 0 ∧ σ.b 2 = some (.box [.nil]) ∧ σ.t 3 = .bs 1008 1 (varsM xs).length ∧ σ.b 1008 = some (.arr 3 1 ((varsM xs).map iE)) ∧ σ.t 4 = .bs 1010 3 xs.length ∧ σ.b 1010 = some (.arr 31 3 ((mixC xs k).map TyI.own)) ∧ σ.t 11 = .bs 1010 3 xs.length ∧ σ.t 12 = .s (.int .i64 xs.length) ∧ σ.t 13 = .s (.int .i64 k)) xs.length ⟨0, by omega, by omega, ?_⟩ ?_
  · simp only [go_sem, simprocAttr, Int.natCast_zero, mixC_zero]
    all_goals trace_state
  · rintro n σ ⟨k, hk, rfl, h2, hb2, h3, hb3, h4, hb4, h11, h12, h13⟩ K' hK
    by_cases hlt : k < xs.length
    · have hml := mixC_len xs hk
      have hx := getD_map TyI.own (mixC xs k) k (by omega)
      rw [mixC_at xs hlt] at hx
      have he := TyI.own_eq xs[k]
      have hml' : ((mixC xs k).map TyI.own).length = xs.length := by simp [hml]
      cases hvb : varB xs[k] with
      | false =>
        have e1 : (xs[k].name.toList == []) = false := by unfold varB at hvb; simpa using hvb
        have hsame := mixC_same xs hlt hvb
        (have hWf := WFx.mk (And.intro @h2 <| And.intro @hb2 <| And.intro @h3 <| And.intro @hb3 <| And.intro @h4 <| And.intro @hb4 <| And.intro @h11 <| And.intro @h12 <| And.intro @h13 <| And.intro @hx <| And.intro @he <| And.intro @hml' <| And.intro @lit0 <| @e1); repeat' (first | refine zS ?_ | exact zE | with_reducible apply And.intro | ((with_reducible intro hb0); revert hb0; with_reducible first | exact zB0 | refine zB fun hb => ?_ | fail) | ((with_reducible apply q_Meet); exact zM) | exact zC | refine zT ?_ | fail))
        refine hK (xs.length - (k + 1)) _ (by omega) ⟨k + 1, by omega, rfl, ?_⟩
        simp only [go_sem, simprocAttr, h2, hb2, h3, hb3, h4, hb4, h11, h12, h13, Int.natCast_succ, hsame]
        all_goals trace_state
      | true =>
        have e1 : (xs[k].name.toList == []) = true := by unfold varB at hvb; simpa using hvb
        have hm : xs[k].v ∈ varsM xs := (varsM_mem' _ _).2 ⟨_, List.getElem_mem hlt, hvb, rfl⟩
        have hfi := fidx_idxN _ _ hm
        have hci := idxN_le (varsM xs) xs[k].v
        (have hWf := WFx.mk (And.intro @h2 <| And.intro @hb2 <| And.intro @h3 <| And.intro @hb3 <| And.intro @h4 <| And.intro @hb4 <| And.intro @h11 <| And.intro @h12 <| And.intro @h13 <| And.intro @hx <| And.intro @he <| And.intro @hml' <| And.intro @lit0 <| And.intro @e1 <| @hfi); repeat' (first | refine zS ?_ | exact zE | with_reducible apply And.intro | refine zK (c_Index_int (varsM xs) xs[k].v) ?_ | ((with_reducible intro hb0); revert hb0; with_reducible first | exact zB0 | refine zB fun hb => ?_ | fail) | ((with_reducible apply q_Meet); exact zM) | exact zC | refine zT ?_ | fail))
        refine hK (xs.length - (k + 1)) _ (by omega) ⟨k + 1, by omega, rfl, ?_⟩
        simp only [go_sem, simprocAttr, h2, hb2, h3, hb3, h4, hb4, h11, h12, h13, Int.natCast_succ]
        exact congrArg (Ob.arr _ 3) (by rw [← mixC_set xs hlt, List.map_set]; congr 1; unfold canonI; rw [if_pos hvb]; rfl)
    · obtain rfl : k = xs.length := by omega
      rw [mixC_all] at hb4
      have hcl := canonM_len' xs
      have hcl' : ((canonM xs).map TyI.own).length = xs.length := by simp [hcl]
      (have hWf := WFx.mk (And.intro @h2 <| And.intro @hb2 <| And.intro @h3 <| And.intro @hb3 <| And.intro @h4 <| And.intro @hb4 <| And.intro @h11 <| And.intro @h12 <| And.intro @h13 <| And.intro @hcl <| @hcl'); repeat' (first | refine zS ?_ | exact zE | with_reducible apply And.intro | ((with_reducible intro hb0); revert hb0; with_reducible first | exact zB0 | refine zB fun hb => ?_ | fail) | ((with_reducible apply q_Meet); exact zM) | exact zC | refine zT ?_ | fail))
      all_goals trace_state
end Go.Proofs.Ytngobmjdbjlkcaa

/- Fits of the reference, over the second engine. -/
namespace Go.Proofs.Ytngobmjdbjlkcaa
set_option linter.unusedVariables false
set_option linter.unusedSimpArgs false
open Go.RowKit
theorem c_specPrintTy (xs : List TyI) (ho : ∀ x ∈ xs, x.ok) (hl : xs.length ≤ 1000000000) : FCon Try.prog 108 [.ag [.sl 3 (xs.map TyI.enc)]] (fun r _ => r = .s (.string (bs (printTyM xs)))) := by
  refine FCon.ofBelow (Rv := fun v => v = .string (bs (printTyM xs))) Try.func108 rfl rfl ?_ rfl ?_
  · rintro _ rfl; exact ⟨rfl, rfl⟩
  · intro w S up vs hl' hv
    obtain ⟨v, rfl, h'⟩ := one_arg (P := fun _ d u => RB S up w d u) hl' hv
    obtain ⟨u, rfl, hu⟩ := ag_one h'
    exact (spec_PrintTy w _ (Sub.self w) u xs (tyS_of2 hu ho) hl).mono fun e w' h => ⟨_, h.1, rfl, h.2⟩
/-- the reference's test: the texts. -/
theorem texts_eq {xs ys : List TyI} (hx : tyOkM xs = true) (hy : tyOkM ys = true) : ((bs (printTyM xs)).toList == (bs (printTyM ys)).toList) = true ↔ xs = ys := by
  have e : ∀ l : List UInt8, (bs l).toList = l := fun l => by rw [ByteArray.toList_eq]; simp [bs]
  rw [e, e]
  exact ⟨fun h => printTyM_inj hx hy (by simpa using h), fun h => by subst h; simp⟩
/-- a part of a right type is right. -/
theorem tyOkM_seg {xs : List TyI} (h : tyOkM xs = true) {k e : Nat} (hk : endM xs k = e) : tyOkM (seg xs k e) = true := by
  have hb := endM_bd xs k e hk
  unfold tyOkM tyItemsM at h ⊢
  simp only [Bool.and_eq_true, decide_eq_true_eq, List.all_eq_true] at h ⊢
  have hlen : (seg xs k e).length = e - k := by unfold seg; simp; omega
  refine ⟨by omega, fun x hx => h.2.1 x (List.mem_of_mem_drop (List.mem_of_mem_take hx)), ?_⟩
  rw [hlen]
  unfold endM at hk ⊢
  have hs : arsM (seg xs k e) = ((arsM xs).drop k).take (e - k) := by unfold arsM seg; simp
  rw [hs, List.drop_zero]
  have key : ∀ (l : List Nat) (m j : Nat), scan l m = some j → scan (l.take j) m = some j := by
    intro l
    induction l with
    | nil => intro m j q; cases m with
      | zero => rw [scan_zero] at q ⊢; exact q
      | succ m => cases q
    | cons a l ih =>
      intro m j q
      cases m with
      | zero => rw [scan_zero] at q ⊢; exact q
      | succ m =>
        rw [scan] at q
        obtain ⟨i, hi, rfl⟩ := Option.map_eq_some_iff.1 q
        rw [List.take_succ_cons, scan, ih _ _ hi]; rfl
  cases hsc : scan ((arsM xs).drop k) 1 with
  | none =>
    rw [hsc] at hk
    have h2 : (-1 : Int) = (e : Int) := hk
    omega
  | some j =>
    rw [hsc] at hk
    have hj : j = e - k := by
      have h2 : ((k + j : Nat) : Int) = (e : Int) := hk
      omega
    subst hj
    rw [key _ _ _ hsc]
    simp
theorem find_at {α : Type} {p : α → Bool} : ∀ (l : List α) (j : Nat) (h : j < l.length), (∀ s ∈ l.take j, p s = false) → p l[j] = true → l.find? p = some l[j]
  | x :: l, 0, _, _, hp => by
    have hp : p x = true := hp
    simp [List.find?, hp]
  | x :: l, j + 1, h, hn, hp => by
    have := hn x (by simp)
    simp only [List.find?, this]
    exact find_at l j (by simpa using h) (fun s hs => hn s (by simp [hs])) hp
theorem find_no {α : Type} {p : α → Bool} {l : List α} (h : ∀ s ∈ l, p s = false) : l.find? p = none := by
  rw [List.find?_eq_none]
  intro s hs
  rw [h s hs]; simp
theorem runF_seg {xs ys : List TyI} {i e k : Nat} {l : List SubM} (hi : i < xs.length) (he : i < e) : runF ys (seg xs i e) k l = (stepF ys xs[i] k l).bind fun r => runF ys (seg xs (i + 1) e) r.1 r.2 := by
  rw [seg_cons hi he]; rfl
theorem runF_seg1 {xs ys : List TyI} {i k : Nat} {l : List SubM} (hi : i < xs.length) : runF ys (seg xs i (i + 1)) k l = stepF ys xs[i] k l := by
  rw [runF_seg hi (by omega), seg_nil]
  cases stepF ys xs[i] k l <;> rfl
theorem runF_more {xs ys : List TyI} {i i' e k : Nat} {l : List SubM} (h1 : i ≤ i') (h2 : i' ≤ e) (h3 : e ≤ xs.length) : runF ys (seg xs i e) k l = (runF ys (seg xs i i') k l).bind fun r => runF ys (seg xs i' e) r.1 r.2 := by
  rw [seg_app h1 h2 h3, runF_app]
def GoodS (l : List SubM) : Prop := ∀ s ∈ l, s.ok ∧ tyOkM s.ty = true
theorem c_l05Part (ys : List TyI) (ho : ∀ y ∈ ys, y.ok) (hi : ∀ y ∈ ys, itemM y = true) (hl : ys.length ≤ 1000000) (k f : Nat) (h : endM ys k = f) : FCon Try.prog 107 [.ag [.sl 3 (ys.map TyI.enc)], .s (.int .i64 k)] (fun r _ => r = .ag [.osl 31 3 ((seg ys k f).map TyI.own)]) := c_l05PartA ys (fun y hy => itemM_ar (hi y hy)) hl k f h
theorem c_l05PartI (ys : List TyI) (ho : ∀ y ∈ ys, y.ok) (hi : ∀ y ∈ ys, itemM y = true) (hl : ys.length ≤ 1000000) (k f : Nat) (h : endM ys k = f) : FCon Try.prog 107 [.ag [.sl 3 (ys.map TyI.enc)], .s (.int .i64 k)] (fun r _ => r = .ag [.sl 3 ((seg ys k f).map TyI.enc)]) := FCon.ice ((c_l05Part ys ho hi hl k f h).mono fun r o e => by
  subst e
  simp only [frA, frzL, frz, TyI.frzS, List.map_cons, List.map_nil])
/-- what l05Fits answers; on a failure nil or some list. -/
def FitR0 (q : Option (Nat × List SubM)) (e f : Nat) (r : D) : Prop := match q with
  | none => ∃ d, (d = .nil ∨ ∃ l : List SubM, d = .sl 2 (l.map SubM.enc)) ∧ r = .tup [d, .s (.bool false)]
  | some (p, l) => p = f ∧ GoodS l ∧ l.length ≤ e ∧ r = .tup [.sl 2 (l.map SubM.enc), .s (.bool true)]
def FitR (q : Option (Nat × List SubM)) (e f : Nat) (r : D) : Prop := match q with
  | none => ∃ l : List SubM, r = .tup [.sl 2 (l.map SubM.enc), .s (.bool false)]
  | some (p, l) => p = f ∧ GoodS l ∧ l.length ≤ e ∧ r = .tup [.sl 2 (l.map SubM.enc), .s (.bool true)]
theorem FCon.fitR {f : FuncId} {args : List D} {q : Option (Nat × List SubM)} {e f' : Nat} (h : FCon Try.prog f args (fun r _ => FitR0 q e f' r)) : FCon Try.prog f args (fun r _ => FitR q e f' r) := h.wk fun r o e' => by
  cases q with
  | some z => exact ⟨r, e', fun _ _ _ q => q⟩
  | none =>
    obtain ⟨d, hd, rfl⟩ := e'
    rcases hd with rfl | ⟨l, rfl⟩
    · refine ⟨.tup [.sl 2 (([] : List SubM).map SubM.enc), .s (.bool false)], ⟨[], rfl⟩, fun g w v q => ?_⟩
      obtain ⟨us, rfl, n1, n2⟩ := q
      refine ⟨us, rfl, by simpa using n1, fun m x u hx hu => ?_⟩
      match m, hx with
      | 0, hx =>
        simp at hx; subst hx
        exact Rep.nil_sl _ (n2 0 _ u rfl hu)
      | m + 1, hx => exact n2 (m + 1) x u hx hu
    · exact ⟨_, ⟨l, rfl⟩, fun _ _ _ q => q⟩
set_option maxRecDepth 100000 in
set_option maxHeartbeats 8000000 in
theorem c_l05Fits (xs ys : List TyI) (hox : ∀ x ∈ xs, x.ok) (hoy : ∀ y ∈ ys, y.ok) (hix : ∀ x ∈ xs, itemM x = true) (hTY : tyOkM ys = true) (hlx : xs.length ≤ 1000000) :
    ∀ (N i k e f : Nat) (l : List SubM), e - i ≤ N → endM xs i = e → endM ys k = f → GoodS l → l.length ≤ i → FCon Try.prog 57 [.ag [.sl 3 (xs.map TyI.enc)], .s (.int .i64 i), .ag [.sl 3 (ys.map TyI.enc)], .s (.int .i64 k), .sl 2 (l.map SubM.enc)] (fun r _ => FitR (runF ys (seg xs i e) k l) e f r) := by
  obtain ⟨hiy, hey, hly⟩ := tyOkM_all hTY
  intro N
  induction N with
  | zero =>
    intro i k e f l hN he hf hg hl
    have := endM_bd xs i e he
    omega
  | succ N ih =>
    intro i k e f l hN he hf hg hl
    have hbx := endM_bd xs i e he
    have hby := endM_bd ys k f hf
    have hx := getD_map TyI.enc xs i hbx.2.2
    have hxe := TyI.enc_eq xs[i]
    have hy := getD_map TyI.enc ys k hby.2.2
    have hye := TyI.enc_eq ys[k]
    have hik := hix _ (List.getElem_mem hbx.2.2)
    have hoi := hox _ (List.getElem_mem hbx.2.2)
    have hTs := tyOkM_seg hTY hf
    have hos : ∀ y ∈ seg ys k f, y.ok := fun y hy => hoy y (List.mem_of_mem_drop (List.mem_of_mem_take hy))
    have hP := c_l05PartI ys hoy hiy (by omega) k f hf
    refine FCon.fitR ((FCon.frz (Rs := fun r _ => FitR0 (runF ys (seg xs i e) k l) e f (frA r)) ?_).mono (fun r o ⟨r0, h1, h2⟩ => by rw [h2]; exact h1))
    cases hv : xs[i].name.toList.isEmpty with
    | true =>
      have e1 : (xs[i].name.toList == []) = true := by simpa using hv
      have har := item_ar0 hik hv
      obtain rfl : e = i + 1 := endM_none xs i e hbx.2.2 he har
      rw [runF_seg1 hbx.2.2]
      refine FCon.intro PM _ Try.func57 (by kernel_rfl) rfl _ Try.ntmps57 rfl [(8, 8, [], [], (lin [] [0, 1, 2, 3, 4, 5, 6, 7])), (10, 8, [0, 2], [(0, 1), (0, 3), (0, 4), (0, 5), (0, 6), (0, 7), (2, 3), (2, 4), (2, 5), (2, 6), (2, 7)], (lin [0, 2] [1, 3, 4, 5, 6, 7, 0, 2]))] (by decide +kernel) (by simp) (by simp) rfl (by first | rfl | simp only [go_sem]) ?_
      (have hWf := WFx.mk (And.intro @hx <| And.intro @hxe <| And.intro @lit0 <| @e1); repeat' (first | refine zS ?_ | exact zE | with_reducible apply And.intro | refine zK (hP) ?_ | ((with_reducible intro hb0); revert hb0; with_reducible first | exact zB0 | refine zB fun hb => ?_ | fail) | ((with_reducible apply q_Meet); exact zM) | exact zC | refine zT ?_ | fail))
      refine AC_loop (fun n σ => ∃ j : Nat, j ≤ l.length ∧ n = l.length - j ∧ σ.t 4 = .sl 2 (l.map SubM.enc) ∧ σ.t 12 = .bx 12 0 ∧ σ.b 12 = some (.box [.s (.int .i64 xs[i].v), .s (.string xs[i].name), .s (.int .i64 xs[i].ar)]) ∧ σ.t 13 = .bx 13 0 ∧ σ.b 13 = some (.box [.sl 3 ((seg ys k f).map TyI.enc)]) ∧
        σ.t 31 = .sl 2 (l.map SubM.enc) ∧ σ.t 32 = .s (.int .i64 l.length) ∧ σ.t 33 = .s (.int .i64 j) ∧ ∀ s ∈ l.take j, (s.v == xs[i].v) = false) l.length ⟨0, by omega, by omega, ?_⟩ ?_
      · simp only [go_sem, simprocAttr, Int.natCast_zero]
        all_goals simp
      · rintro n σ ⟨j, hj, rfl, h4, h12, hb12, h13, hb13, h31, h32, h33, hno⟩ K' hK
        by_cases hlt : j < l.length
        · have hz := getD_map SubM.enc l j hlt
          have hze := SubM.enc_eq l[j]
          have hgj := hg _ (List.getElem_mem hlt)
          have hlj := (tyOkM_all hgj.2).2.2
          have hls := (tyOkM_all hTs).2.2
          cases hvv : (l[j].v == xs[i].v) with
          | true =>
            (have hWf := WFx.mk (And.intro @h4 <| And.intro @h12 <| And.intro @hb12 <| And.intro @h13 <| And.intro @hb13 <| And.intro @h31 <| And.intro @h32 <| And.intro @h33 <| And.intro @hz <| And.intro @hze <| @hvv); repeat' (first | refine zS ?_ | exact zE | with_reducible apply And.intro | ((with_reducible apply q_CallG); refine zG (c_specPrintTy l[j].ty hgj.1.2 (by omega)) ?_) | ((with_reducible apply q_CallQ); refine CallQ_mk (c_specPrintTy l[j].ty hgj.1.2 (by omega)) ?_) | ((with_reducible apply q_CallG); refine zG (c_specPrintTy (seg ys k f) hos (by omega)) ?_) | ((with_reducible apply q_CallQ); refine CallQ_mk (c_specPrintTy (seg ys k f) hos (by omega)) ?_) | ((with_reducible intro hb0); revert hb0; with_reducible first | exact zB0 | refine zB fun hb => ?_ | fail) | ((with_reducible apply q_Meet); exact zM) | exact zC | refine zT ?_ | fail))
            have hfn := find_at (p := fun s : SubM => s.v == xs[i].v) l j hlt hno hvv
            rw [stepF_old hby.2.2 hv hf hfn]
            by_cases heq : l[j].ty = seg ys k f
            · rw [if_pos heq, (texts_eq hgj.2 hTs).2 heq]
              exact ⟨rfl, hg, by omega, rfl⟩
            · rw [if_neg heq]
              have : ((bs (printTyM l[j].ty)).toList == (bs (printTyM (seg ys k f))).toList) = false := by
                cases q : ((bs (printTyM l[j].ty)).toList == (bs (printTyM (seg ys k f))).toList) with
                | false => rfl
                | true => exact absurd ((texts_eq hgj.2 hTs).1 q) heq
              rw [this]
              exact ⟨_, .inr ⟨l, rfl⟩, rfl⟩
          | false =>
            (have hWf := WFx.mk (And.intro @h4 <| And.intro @h12 <| And.intro @hb12 <| And.intro @h13 <| And.intro @hb13 <| And.intro @h31 <| And.intro @h32 <| And.intro @h33 <| And.intro @hz <| And.intro @hze <| @hvv); repeat' (first | refine zS ?_ | exact zE | with_reducible apply And.intro | ((with_reducible intro hb0); revert hb0; with_reducible first | exact zB0 | refine zB fun hb => ?_ | fail) | ((with_reducible apply q_Meet); exact zM) | exact zC | refine zT ?_ | fail))
            refine hK (l.length - (j + 1)) _ (by omega) ⟨j + 1, by omega, rfl, ?_⟩
            simp only [go_sem, simprocAttr, h4, h12, hb12, h13, hb13, h31, h32, h33, Int.natCast_succ]
            intro s hs
            rw [List.take_succ_eq_append_getElem hlt] at hs
            rcases List.mem_append.1 hs with hs | hs
            · exact hno s hs
            · simp at hs; rw [hs]; exact hvv
        · obtain rfl : j = l.length := by omega
          have hfn : l.find? (fun s => s.v == xs[i].v) = none := find_no (by simpa using hno)
          (have hWf := WFx.mk (And.intro @h4 <| And.intro @h12 <| And.intro @hb12 <| And.intro @h13 <| And.intro @hb13 <| And.intro @h31 <| And.intro @h32 <| @h33); repeat' (first | refine zS ?_ | exact zE | with_reducible apply And.intro | ((with_reducible intro hb0); revert hb0; with_reducible first | exact zB0 | refine zB fun hb => ?_ | fail) | ((with_reducible apply q_Meet); exact zM) | exact zC | refine zT ?_ | fail))
          rw [stepF_new hby.2.2 hv hf hfn]
          refine ⟨rfl, fun s hs => ?_, by simp; omega, ?_⟩
          · rcases List.mem_append.1 hs with hs | hs
            · exact hg s hs
            · simp only [List.mem_singleton] at hs
              subst hs
              exact ⟨⟨hoi.1, hos⟩, hTs⟩
          · first
              | (rw [List.map_append]; rfl)
              | (show D.tup [D.sl 2 (frzLL (List.map SubM.enc l) ++ _), _] = _
                 rw [sub_frz, List.map_append]
                 rfl)
              | fail
    | false =>
      have e1 : (xs[i].name.toList == []) = false := by
        cases hq : xs[i].name.toList with
        | nil => rw [hq] at hv; cases hv
        | cons _ _ => rfl
      have hv0 := item_v0 hik hv
      by_cases hsame : xs[i].name.toList = ys[k].name.toList ∧ xs[i].ar = ys[k].ar
      · obtain ⟨b1, b2⟩ := hsame
        have heq : xs[i] = ys[k] := by
          refine (itemB_iff _ _).1 ?_
          have hvy : ys[k].name.toList.isEmpty = false := by rw [← b1]; exact hv
          have := item_v0 (hiy _ (List.getElem_mem hby.2.2)) hvy
          simp [itemB, hv0, this, b1, b2]
        have b1' : (xs[i].name.toList == ys[k].name.toList) = true := by simpa using b1
        have b2' : (xs[i].ar != ys[k].ar) = false := by simpa using b2
        have hst : ∀ e', i + 1 ≤ e' → runF ys (seg xs i e') k l = runF ys (seg xs (i + 1) e') (k + 1) l := fun e' he' => by
          rw [runF_seg hbx.2.2 (by omega), stepF_eq hby.2.2 hv heq]; rfl
        rw [hst e (by omega)]
        obtain ⟨a0, a2⟩ := itemM_ar hik
        obtain ⟨A, hA⟩ : ∃ A : Nat, xs[i].ar = A := ⟨xs[i].ar.toNat, by omega⟩
        have hex : endsM xs (i + 1) A = e := by
          rw [← he, endM_step xs i hbx.2.2, hA]; rfl
        have hey' : endsM ys (k + 1) A = f := by
          rw [← hf, endM_step ys k hby.2.2, ← heq, hA]; rfl
        refine FCon.intro PM _ Try.func57 (by kernel_rfl) rfl _ Try.ntmps57 rfl [(8, 8, [], [], (lin [] [0, 1, 2, 3, 4, 5, 6, 7])), (10, 8, [0, 2], [(0, 1), (0, 3), (0, 4), (0, 5), (0, 6), (0, 7), (2, 3), (2, 4), (2, 5), (2, 6), (2, 7)], (lin [0, 2] [1, 3, 4, 5, 6, 7, 0, 2]))] (by decide +kernel) (by simp) (by simp) rfl (by first | rfl | simp only [go_sem]) ?_
        (have hWf := WFx.mk (And.intro @hx <| And.intro @hxe <| And.intro @hy <| And.intro @hye <| And.intro @lit0 <| And.intro @e1 <| And.intro @b1' <| @b2'); repeat' (first | refine zS ?_ | exact zE | with_reducible apply And.intro | refine zK (hP) ?_ | ((with_reducible intro hb0); revert hb0; with_reducible first | exact zB0 | refine zB fun hb => ?_ | fail) | ((with_reducible apply q_Meet); exact zM) | exact zC | refine zT ?_ | fail))
        refine AC_loop (fun n σ => ∃ (j i' k' : Nat) (l' : List SubM), j ≤ A ∧ n = A - j ∧ runF ys (seg xs (i + 1) i') (k + 1) l = some (k', l') ∧ i + 1 ≤ i' ∧ i' ≤ e ∧ endsM xs i' (A - j) = e ∧ endsM ys k' (A - j) = f ∧ GoodS l' ∧ l'.length ≤ i' ∧
          σ.t 1 = .s (.int .i64 i') ∧ σ.t 3 = .s (.int .i64 k') ∧ σ.t 4 = .sl 2 (l'.map SubM.enc) ∧ σ.t 5 = .bx 5 0 ∧ σ.b 5 = some (.box [.sl 3 (xs.map TyI.enc)]) ∧ σ.t 7 = .bx 7 0 ∧ σ.b 7 = some (.box [.sl 3 (ys.map TyI.enc)]) ∧
          σ.t 12 = .bx 12 0 ∧ σ.b 12 = some (.box [.s (.int .i64 xs[i].v), .s (.string xs[i].name), .s (.int .i64 xs[i].ar)]) ∧ σ.t 17 = .s (.int .i64 j)) A ⟨0, i + 1, k + 1, l, by omega, by omega, by rw [seg_nil]; rfl, by omega, by omega, hex, hey', hg, by omega, ?_⟩ ?_
        · simp only [go_sem, simprocAttr, Int.natCast_zero, Int.natCast_succ]
        · rintro n σ ⟨j, i', k', l', hj, rfl, hr, hi1, hi2, hdx, hdy, hg', hl', h1, h3, h4, h5, hb5, h7, hb7, h12, hb12, h17⟩ K' hK
          rw [hA] at hb12
          by_cases hlt : j < A
          · obtain ⟨m, hm⟩ : ∃ m, A - j = m + 1 := ⟨A - j - 1, by omega⟩
            rw [hm] at hdx hdy
            obtain ⟨e1, he1, hd1⟩ := due_end hdx
            obtain ⟨f1, hf1, hd2⟩ := due_end hdy
            have hbe := endM_bd xs i' e1 he1
            have hbf := endM_bd ys k' f1 hf1
            have hle : e1 ≤ e := by
              rcases endsM_bd xs e1 m (by omega) with z | ⟨z, hz, hz1, -⟩
              · omega
              · omega
            have hcc := ih i' k' e1 f1 l' (by omega) he1 hf1 hg' hl'
            have hce := c_l04End xs.length xs (fun y hy => itemM_ar (hix y hy)) (by omega) i' (by omega)
            have hcf := c_l04End ys.length ys (fun y hy => itemM_ar (hiy y hy)) (by omega) k' (by omega)
            rw [he1] at hce
            rw [hf1] at hcf
            have hmore : runF ys (seg xs (i + 1) e1) (k + 1) l = runF ys (seg xs i' e1) k' l' := by rw [runF_more hi1 (by omega) hbe.2.1, hr]; rfl
            have hlast : runF ys (seg xs (i + 1) e) (k + 1) l = (runF ys (seg xs i' e1) k' l').bind fun r => runF ys (seg xs e1 e) r.1 r.2 := by rw [runF_more (by omega : i + 1 ≤ e1) hle hbx.2.1, hmore]
            cases hq : runF ys (seg xs i' e1) k' l' with
            | none =>
              rw [hq] at hcc hlast
              (have hWf := WFx.mk (And.intro @h1 <| And.intro @h3 <| And.intro @h4 <| And.intro @h5 <| And.intro @hb5 <| And.intro @h7 <| And.intro @hb7 <| And.intro @h12 <| And.intro @hb12 <| @h17); repeat' (first | refine zS ?_ | exact zE | with_reducible apply And.intro | ((with_reducible apply q_CallG); refine CallG_mk (hcc) ?_; rintro _ _ ⟨l3, rfl⟩) | ((with_reducible apply q_CallQ); refine CallQ_mk (hcc) ?_) | ((with_reducible intro hb0); revert hb0; with_reducible first | exact zB0 | refine zB fun hb => ?_ | fail) | ((with_reducible apply q_Meet); exact zM) | exact zC | refine zT ?_ | fail))
              all_goals first | (rw [hlast]; exact (⟨.nil, Or.inl rfl, rfl⟩ : FitR0 none _ _ _)) | trace_state
            | some r =>
              obtain ⟨p, l2⟩ := r
              rw [hq] at hcc hmore
              (have hWf := WFx.mk (And.intro @h1 <| And.intro @h3 <| And.intro @h4 <| And.intro @h5 <| And.intro @hb5 <| And.intro @h7 <| And.intro @hb7 <| And.intro @h12 <| And.intro @hb12 <| @h17); repeat' (first | refine zS ?_ | exact zE | with_reducible apply And.intro | ((with_reducible apply q_CallG); refine CallG_mk (hcc) ?_; rintro _ _ ⟨rfl, hg2, hl2, rfl⟩) | ((with_reducible apply q_CallQ); refine CallQ_mk (hcc) ?_) | refine zK (hce) ?_ | refine zK (hcf) ?_ | ((with_reducible intro hb0); revert hb0; with_reducible first | exact zB0 | refine zB fun hb => ?_ | fail) | ((with_reducible apply q_Meet); exact zM) | exact zC | refine zT ?_ | fail))
              refine hK (A - (j + 1)) _ (by omega) ⟨j + 1, e1, p, l2, by omega, rfl, hmore, by omega, hle, by rw [show A - (j + 1) = m by omega]; exact hd1, by rw [show A - (j + 1) = m by omega]; exact hd2, hg2, hl2, ?_⟩
              simp only [go_sem, simprocAttr, h1, h3, h4, h5, hb5, h7, hb7, h12, hb12, h17, Int.natCast_succ, hA]
          · obtain rfl : j = A := by omega
            rw [Nat.sub_self, endsM_zero] at hdx hdy
            obtain rfl : i' = e := by omega
            obtain rfl : k' = f := by omega
            (have hWf := WFx.mk (And.intro @h1 <| And.intro @h3 <| And.intro @h4 <| And.intro @h5 <| And.intro @hb5 <| And.intro @h7 <| And.intro @hb7 <| And.intro @h12 <| And.intro @hb12 <| @h17); repeat' (first | refine zS ?_ | exact zE | with_reducible apply And.intro | ((with_reducible intro hb0); revert hb0; with_reducible first | exact zB0 | refine zB fun hb => ?_ | fail) | ((with_reducible apply q_Meet); exact zM) | exact zC | refine zT ?_ | fail))
            rw [hr]
            exact ⟨rfl, hg', hl', rfl⟩
      · have hne : xs[i] ≠ ys[k] := fun q => hsame (by rw [q]; exact ⟨rfl, rfl⟩)
        rw [runF_seg hbx.2.2 hbx.1, stepF_ne hby.2.2 hv hne]
        by_cases c1 : xs[i].name.toList = ys[k].name.toList
        · have c2 : xs[i].ar ≠ ys[k].ar := fun q => hsame ⟨c1, q⟩
          have b1' : (xs[i].name.toList == ys[k].name.toList) = true := by simpa using c1
          have b2' : (xs[i].ar != ys[k].ar) = true := by simpa using c2
          refine FCon.intro PM _ Try.func57 (by kernel_rfl) rfl _ Try.ntmps57 rfl [(8, 8, [], [], (lin [] [0, 1, 2, 3, 4, 5, 6, 7])), (10, 8, [0, 2], [(0, 1), (0, 3), (0, 4), (0, 5), (0, 6), (0, 7), (2, 3), (2, 4), (2, 5), (2, 6), (2, 7)], (lin [0, 2] [1, 3, 4, 5, 6, 7, 0, 2]))] (by decide +kernel) (by simp) (by simp) rfl (by first | rfl | simp only [go_sem]) ?_
          (have hWf := WFx.mk (And.intro @hx <| And.intro @hxe <| And.intro @hy <| And.intro @hye <| And.intro @lit0 <| And.intro @e1 <| And.intro @b1' <| @b2'); repeat' (first | refine zS ?_ | exact zE | with_reducible apply And.intro | refine zK (hP) ?_ | ((with_reducible intro hb0); revert hb0; with_reducible first | exact zB0 | refine zB fun hb => ?_ | fail) | ((with_reducible apply q_Meet); exact zM) | exact zC | refine zT ?_ | fail))
          all_goals exact ⟨_, .inl rfl, rfl⟩
        · have b1' : (xs[i].name.toList == ys[k].name.toList) = false := by simpa using c1
          refine FCon.intro PM _ Try.func57 (by kernel_rfl) rfl _ Try.ntmps57 rfl [(8, 8, [], [], (lin [] [0, 1, 2, 3, 4, 5, 6, 7])), (10, 8, [0, 2], [(0, 1), (0, 3), (0, 4), (0, 5), (0, 6), (0, 7), (2, 3), (2, 4), (2, 5), (2, 6), (2, 7)], (lin [0, 2] [1, 3, 4, 5, 6, 7, 0, 2]))] (by decide +kernel) (by simp) (by simp) rfl (by first | rfl | simp only [go_sem]) ?_
          (have hWf := WFx.mk (And.intro @hx <| And.intro @hxe <| And.intro @hy <| And.intro @hye <| And.intro @lit0 <| And.intro @e1 <| @b1'); repeat' (first | refine zS ?_ | exact zE | with_reducible apply And.intro | refine zK (hP) ?_ | ((with_reducible intro hb0); revert hb0; with_reducible first | exact zB0 | refine zB fun hb => ?_ | fail) | ((with_reducible apply q_Meet); exact zM) | exact zC | refine zT ?_ | fail))
          all_goals exact ⟨_, .inl rfl, rfl⟩
theorem FCon.args {P : Program} {f : FuncId} {ars ars' : List D} {Rs : D → List D → Prop} (h : FCon P f ars Rs) (hl : ars'.length = ars.length) (hc : ∀ (g : Gh) (w : World) (j : Nat) (b c : D) (u : Value), ars'[j]? = some b → ars[j]? = some c → RA g w j b u → RA g w j c u) : FCon P f ars' Rs :=
  ⟨h.ent, fun w g vs h1 h2 h3 h4 => h.run w g vs h1 h2 (h3.trans hl) (fun j d u q1 q2 => by
    have hj : j < ars'.length := by rw [hl]; exact (List.getElem?_eq_some_iff.1 q1).1
    exact hc g w j _ d u (List.getElem?_eq_getElem hj) q1 (h4 j _ u (List.getElem?_eq_getElem hj) q2))⟩
set_option maxRecDepth 100000 in
set_option maxHeartbeats 1000000 in
theorem c_specFits (xs ys : List TyI) (hox : ∀ x ∈ xs, x.ok) (hoy : ∀ y ∈ ys, y.ok) (hlx : xs.length ≤ 1048576) (hly : ys.length ≤ 1048576) : FCon Try.prog 13 [.ag [.sl 3 (xs.map TyI.enc)], .ag [.sl 3 (ys.map TyI.enc)]] (fun r _ => r = .s (.bool (fitsM xs ys))) := by
  cases hTX : tyOkM xs with
  | false =>
    have hf : fitsM xs ys = false := by unfold fitsM; rw [hTX]; rfl
    refine FCon.intro PM _ Try.func13 (by kernel_rfl) rfl _ Try.ntmps13 rfl [] (by decide +kernel) (by simp) (by simp) rfl (by first | rfl | simp only [go_sem]) ?_
    (have hWf := WFx.mk @hTX; repeat' (first | refine zS ?_ | exact zE | with_reducible apply And.intro | ((with_reducible apply q_CallG); refine zG (c_specTyOk xs hox (by omega)) ?_) | ((with_reducible apply q_CallQ); refine CallQ_mk (c_specTyOk xs hox (by omega)) ?_) | ((with_reducible apply q_CallG); refine zG (c_specTyOk ys hoy (by omega)) ?_) | ((with_reducible apply q_CallQ); refine CallQ_mk (c_specTyOk ys hoy (by omega)) ?_) | ((with_reducible intro hb0); revert hb0; with_reducible first | exact zB0 | refine zB fun hb => ?_ | fail) | ((with_reducible apply q_Meet); exact zM) | exact zC | refine zT ?_ | fail))
    all_goals exact sB hf.symm
  | true =>
  cases hTY : tyOkM ys with
  | false =>
    have hf : fitsM xs ys = false := by unfold fitsM; rw [hTX, hTY]; rfl
    refine FCon.intro PM _ Try.func13 (by kernel_rfl) rfl _ Try.ntmps13 rfl [] (by decide +kernel) (by simp) (by simp) rfl (by first | rfl | simp only [go_sem]) ?_
    (have hWf := WFx.mk (And.intro @hTX <| @hTY); repeat' (first | refine zS ?_ | exact zE | with_reducible apply And.intro | ((with_reducible apply q_CallG); refine zG (c_specTyOk xs hox (by omega)) ?_) | ((with_reducible apply q_CallQ); refine CallQ_mk (c_specTyOk xs hox (by omega)) ?_) | ((with_reducible apply q_CallG); refine zG (c_specTyOk ys hoy (by omega)) ?_) | ((with_reducible apply q_CallQ); refine CallQ_mk (c_specTyOk ys hoy (by omega)) ?_) | ((with_reducible intro hb0); revert hb0; with_reducible first | exact zB0 | refine zB fun hb => ?_ | fail) | ((with_reducible apply q_Meet); exact zM) | exact zC | refine zT ?_ | fail))
    all_goals exact sB hf.symm
  | true =>
    obtain ⟨hix, hex, hxl⟩ := tyOkM_all hTX
    obtain ⟨hiy, hey, hyl⟩ := tyOkM_all hTY
    have hrun := fitsM_run hTX hTY
    have hF := c_l05Fits xs ys hox hoy hix hTY (by omega) xs.length 0 0 xs.length ys.length [] (by omega) hex hey (fun s hs => by cases hs) (Nat.zero_le _)
    have hsg : seg xs 0 xs.length = xs := by unfold seg; simp
    rw [hsg] at hF
    have hF := FCon.args (ars' := [.ag [.sl 3 (xs.map TyI.enc)], .s (.int .i64 0), .ag [.sl 3 (ys.map TyI.enc)], .s (.int .i64 0), .nil]) hF rfl (fun g w j b c u q1 q2 q3 => by
      match j, q1, q2 with
      | 0, q1, q2 => simp at q1 q2; subst q1 q2; exact q3
      | 1, q1, q2 => simp at q1 q2; subst q1 q2; exact q3
      | 2, q1, q2 => simp at q1 q2; subst q1 q2; exact q3
      | 3, q1, q2 => simp at q1 q2; subst q1 q2; exact q3
      | 4, q1, q2 => simp at q1 q2; subst q1 q2; exact Rep.nil_sl _ q3)
    cases hq : runF ys xs 0 [] with
    | none =>
      rw [hq] at hF
      refine FCon.intro PM _ Try.func13 (by kernel_rfl) rfl _ Try.ntmps13 rfl [] (by decide +kernel) (by simp) (by simp) rfl (by first | rfl | simp only [go_sem]) ?_
      (have hWf := WFx.mk (And.intro @hTX <| @hTY); repeat' (first | refine zS ?_ | exact zE | with_reducible apply And.intro | ((with_reducible apply q_CallG); refine zG (c_specTyOk xs hox (by omega)) ?_) | ((with_reducible apply q_CallQ); refine CallQ_mk (c_specTyOk xs hox (by omega)) ?_) | ((with_reducible apply q_CallG); refine zG (c_specTyOk ys hoy (by omega)) ?_) | ((with_reducible apply q_CallQ); refine CallQ_mk (c_specTyOk ys hoy (by omega)) ?_) | ((with_reducible apply q_CallG); refine CallG_mk (hF) ?_; rintro _ _ ⟨l3, rfl⟩) | ((with_reducible apply q_CallQ); refine CallQ_mk (hF) ?_) | ((with_reducible intro hb0); revert hb0; with_reducible first | exact zB0 | refine zB fun hb => ?_ | fail) | ((with_reducible apply q_Meet); exact zM) | exact zC | refine zT ?_ | fail))
      all_goals exact sB (by rw [hrun, hq]; rfl)
    | some z =>
      obtain ⟨p, l2⟩ := z
      rw [hq] at hF
      refine FCon.intro PM _ Try.func13 (by kernel_rfl) rfl _ Try.ntmps13 rfl [] (by decide +kernel) (by simp) (by simp) rfl (by first | rfl | simp only [go_sem]) ?_
      (have hWf := WFx.mk (And.intro @hTX <| @hTY); repeat' (first | refine zS ?_ | exact zE | with_reducible apply And.intro | ((with_reducible apply q_CallG); refine zG (c_specTyOk xs hox (by omega)) ?_) | ((with_reducible apply q_CallQ); refine CallQ_mk (c_specTyOk xs hox (by omega)) ?_) | ((with_reducible apply q_CallG); refine zG (c_specTyOk ys hoy (by omega)) ?_) | ((with_reducible apply q_CallQ); refine CallQ_mk (c_specTyOk ys hoy (by omega)) ?_) | ((with_reducible apply q_CallG); refine CallG_mk (hF) ?_; rintro _ _ ⟨_, _, _, rfl⟩) | ((with_reducible apply q_CallQ); refine CallQ_mk (hF) ?_) | ((with_reducible intro hb0); revert hb0; with_reducible first | exact zB0 | refine zB fun hb => ?_ | fail) | ((with_reducible apply q_Meet); exact zM) | exact zC | refine zT ?_ | fail))
      all_goals exact sB (by rw [hrun, hq]; rfl)
end Go.Proofs.Ytngobmjdbjlkcaa

/- Fits goes on under a constructor: plain. -/
namespace Go.Proofs.Ytngobmjdbjlkcaa
set_option linter.unusedVariables false
set_option linter.unusedSimpArgs false
open Go.RowKit
def listB : ByteArray := ⟨#[108, 105, 115, 116]⟩
def lstI : TyI := ⟨0, listB, 1⟩
theorem lst_item : itemM lstI = true := by decide +kernel
theorem lst_name : lstI.name.toList.isEmpty = false := by decide +kernel
theorem arsM_cons (x : TyI) (xs : List TyI) : arsM (x :: xs) = x.ar.toNat :: arsM xs := rfl
theorem endsM_up (x : TyI) (xs : List TyI) (k i n : Nat) (h : endsM xs k i = (n : Int)) : endsM (x :: xs) (k + 1) i = ((n + 1 : Nat) : Int) := by
  unfold endsM at h ⊢
  rw [arsM_cons, List.drop_succ_cons]
  cases hs : scan ((arsM xs).drop k) i with
  | none => rw [hs] at h; exact absurd (show (-1 : Int) = (n : Int) from h) (by omega)
  | some j => rw [hs] at h; simp at h ⊢; omega
theorem tyOk_lst {xs : List TyI} (h : tyOkM xs = true) (hl : xs.length < 200) : tyOkM (lstI :: xs) = true := by
  obtain ⟨h1, h2, h3⟩ := tyOkM_all h
  unfold tyOkM tyItemsM
  have he : endM (lstI :: xs) 0 = ((xs.length + 1 : Nat) : Int) := by
    rw [endM_ends, endsM_step (lstI :: xs) 0 0 (by simp)]
    exact endsM_up lstI xs 0 1 xs.length h2
  simp only [Bool.and_eq_true, decide_eq_true_eq, List.all_eq_true, List.length_cons]
  refine ⟨by omega, fun x hx => ?_, he⟩
  rcases List.mem_cons.1 hx with rfl | hx
  · exact lst_item
  · exact h1 x hx
theorem seg_up (x : TyI) (ys : List TyI) (p f : Nat) : seg (x :: ys) (p + 1) (f + 1) = seg ys p f := by
  unfold seg; rw [List.drop_succ_cons, Nat.add_sub_add_right]
theorem stepF_up {ys : List TyI} {x : TyI} {p f : Nat} {l : List SubM} (hf : endM ys p = (f : Int)) (hp : p < ys.length) {r : Nat × List SubM} (h : stepF ys x p l = some r) : stepF (lstI :: ys) x (p + 1) l = some (r.1 + 1, r.2) := by
  have hp' : p + 1 < (lstI :: ys).length := by simpa using hp
  have hg : (lstI :: ys)[p + 1] = ys[p] := rfl
  have hf' : endM (lstI :: ys) (p + 1) = ((f + 1 : Nat) : Int) := by
    rw [endM_ends] at hf ⊢; exact endsM_up lstI ys p 1 f hf
  cases hv : x.name.toList.isEmpty with
  | false =>
    by_cases he : x = ys[p]
    · rw [stepF_eq hp hv he] at h
      injection h with h; subst h
      exact stepF_eq hp' hv (by rw [hg]; exact he)
    · rw [stepF_ne hp hv he] at h; cases h
  | true =>
    cases hfd : l.find? (fun s => s.v == x.v) with
    | none =>
      rw [stepF_new hp hv hf hfd] at h
      injection h with h; subst h
      rw [stepF_new hp' hv hf' hfd, seg_up]
    | some s =>
      rw [stepF_old hp hv hf hfd] at h
      rw [stepF_old hp' hv hf' hfd, seg_up]
      split at h
      · rename_i q
        injection h with h; subst h
        rw [if_pos q]
      · cases h
theorem fits_lst {xs ys : List TyI} (h : fitsM xs ys = true) (hx : xs.length < 200) (hy : ys.length < 200) : fitsM (lstI :: xs) (lstI :: ys) = true := by
  have hTX : tyOkM xs = true := by unfold fitsM at h; simp only [Bool.and_eq_true] at h; exact h.1
  have hTY : tyOkM ys = true := by unfold fitsM at h; simp only [Bool.and_eq_true] at h; exact h.2.1
  have hrun : (runF ys xs 0 []).isSome = true := by rw [← fitsM_run hTX hTY]; exact h
  obtain ⟨hix, hex, -⟩ := tyOkM_all hTX
  obtain ⟨hiy, hey, -⟩ := tyOkM_all hTY
  rw [fitsM_run (tyOk_lst hTX hx) (tyOk_lst hTY hy)]
  have h0 : runF (lstI :: ys) (lstI :: xs) 0 [] = runF (lstI :: ys) xs 1 [] := by
    rw [runF, stepF_eq (ys := lstI :: ys) (p := 0) (by simp) lst_name rfl]; rfl
  rw [h0]
  have key : ∀ k, k ≤ xs.length → ∃ (p m : Nat) (l : List SubM), runF ys (xs.take k) 0 [] = some (p, l) ∧ runF (lstI :: ys) (xs.take k) 1 [] = some (p + 1, l) ∧ endsM xs k m = xs.length ∧ endsM ys p m = ys.length := by
    intro k
    induction k with
    | zero => intro _; exact ⟨0, 1, [], rfl, rfl, hex, hey⟩
    | succ k ih =>
      intro hk
      obtain ⟨p, m, l, r1, r2, d1, d2⟩ := ih (by omega)
      have hlt : k < xs.length := hk
      obtain ⟨m, rfl⟩ : ∃ m', m = m' + 1 := by
        cases m with
        | zero => rw [endsM_zero] at d1; omega
        | succ m => exact ⟨m, rfl⟩
      have hp := due_lt d2
      obtain ⟨f, hf, -⟩ := due_end d2
      have t1 : runF ys (xs.take (k + 1)) 0 [] = stepF ys xs[k] p l := by
        rw [runF_take hlt, r1]; rfl
      have hsome : ∃ r, stepF ys xs[k] p l = some r := by
        cases hs : stepF ys xs[k] p l with
        | some r => exact ⟨r, rfl⟩
        | none =>
          rw [hs] at t1
          rw [runF_stop t1] at hrun; cases hrun
      obtain ⟨r, hr⟩ := hsome
      have hdue := stepF_due hiy (hix _ (List.getElem_mem hlt)) d2 (by omega) hr
      refine ⟨r.1, m + xs[k].ar.toNat, r.2, by rw [t1, hr], ?_, by rw [← endsM_step xs k m hlt]; exact d1, hdue⟩
      rw [List.take_succ_eq_append_getElem hlt, runF_app, r2, Option.bind_some, runF_one]
      exact stepF_up hf hp hr
  obtain ⟨p, m, l, -, r2, -, -⟩ := key xs.length (Nat.le_refl _)
  rw [List.take_length] at r2
  rw [r2]; rfl
theorem textT_pos {xs : List TyI} (h : tyOkM xs = true) : printTyM xs ≠ [] := by
  intro hn
  obtain ⟨-, he, -⟩ := tyOkM_all h
  have h0 : 0 < xs.length := by
    cases xs with
    | nil => exact absurd he (by decide)
    | cons _ _ => simp
  rw [printTyM_ok h] at hn
  obtain ⟨n, hn1⟩ : ∃ n, xs.length = n + 1 := ⟨xs.length - 1, by omega⟩
  rw [hn1, textT_at xs n 0 h0] at hn
  split at hn
  · rw [varT_vw] at hn; cases hn
  · rename_i hv
    split at hn
    · rw [ByteArray.toList_eq, hn] at hv; exact hv rfl
    · split at hn
      · simp at hn
      · split at hn <;> simp at hn
/-- two types that print alike, the first an instance of itself. -/
theorem print_fits {xs ys : List TyI} (hx : fitsM xs xs = true) (h : printTyM xs = printTyM ys) : fitsM xs ys = true := by
  have hTX : tyOkM xs = true := by unfold fitsM at hx; simp only [Bool.and_eq_true] at hx; exact hx.1
  cases hTY : tyOkM ys with
  | true => rw [← printTyM_inj hTX hTY h]; exact hx
  | false =>
    rw [printTyM_bad hTY] at h
    exact absurd h (textT_pos hTX)
end Go.Proofs.Ytngobmjdbjlkcaa
