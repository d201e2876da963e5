import Derived.Test.YtahdaknaoogpkaaGreatExB
import Derived.Test.YtahdaknaoogpkaaGreatNmB
import Derived.Test.YtahdaknaoogpkaaGreatCdB
/- The compiler of the program, over the second engine: what it lays down. -/
set_option maxRecDepth 100000
set_option maxHeartbeats 4000000
namespace Go.Proofs.YtahdaknaoogpkaaGreat
set_option linter.unusedVariables false
set_option linter.unusedSimpArgs false
attribute [local go_sem] List.map_append
open Go.RowKit Arb
def cmpD (s : CS) (env : List ByteArray) : List D := [.osl 53 4 (s.ins.map MIns.enc), .osl 114 1 (s.pats.map MPat.own), .osl 9 1 (env.map stE), .s (.bool s.lost)]
theorem cmpD_eq (s : CS) (env : List ByteArray) : cmpD s env = [.osl 53 4 (s.ins.map MIns.enc), .osl 114 1 (s.pats.map MPat.own), .osl 9 1 (env.map stE), .s (.bool s.lost)] := rfl
theorem pnames_succ {xs : List DPNode} {k : Nat} (h : k < xs.length) : pnames (xs.take (k + 1)) = if xs[k].kind = 2 then pnames (xs.take k) ++ [xs[k].s] else pnames (xs.take k) := by
  unfold pnames
  rw [List.take_succ_eq_append_getElem h, List.filter_append, List.map_append]
  by_cases h2 : xs[k].kind = 2 <;> simp [h2]
theorem pnames_len (xs : List DPNode) : (pnames xs).length ≤ xs.length := by
  unfold pnames
  rw [List.length_map]; exact List.length_filter_le _ _
theorem c_patNames (xs : List DPNode) (hl : xs.length ≤ 1000000) : FCon Tryz.prog 206 [.ag [.sl 4 (xs.map DPNode.enc)]] (fun r _ => r = .osl 9 1 ((pnames xs).map stE)) := by
  refine FCon.intro PM _ Tryz.func206 (by kernel_rfl) rfl _ Tryz.ntmps206 rfl [] (by decide +kernel) (by simp) (by simp) rfl (by first | rfl | simp only [go_sem]) ?_
  (have hWf := f0; repeat' (first | refine zS ?_ | exact zE | with_reducible apply And.intro | with_reducible exact zB0 | with_reducible refine zB fun hb => ?_ | exact zC | refine zT ?_ | fail))
  refine AC_loop (fun n σ => ∃ k : Nat, k ≤ xs.length ∧ n = xs.length - k ∧ σ.t 3 = .bs 6 1 (pnames (xs.take k)).length ∧ σ.b 6 = some (.arr 9 1 ((pnames (xs.take k)).map stE)) ∧ σ.t 8 = .sl 4 (xs.map DPNode.enc) ∧ σ.t 9 = .s (.int .i64 xs.length) ∧ σ.t 10 = .s (.int .i64 k)) xs.length ⟨0, by omega, by omega, ?_⟩ ?_
  · simp only [go_sem, simprocAttr, Int.natCast_zero, List.take_zero, pnames]
  · rintro n σ ⟨k, hk, rfl, h3, b6, h8, h9, h10⟩ K' hK
    by_cases hlt : k < xs.length
    · have hx := getD_map DPNode.enc xs k hlt
      have he := DPNode.enc_eq xs[k]
      have hpl := pnames_len (xs.take k)
      rw [List.length_take] at hpl
      have hs := pnames_succ hlt
      by_cases h2 : xs[k].kind = 2
      · have e2 : (xs[k].kind == 2) = true := by simpa using h2
        rw [if_pos h2] at hs
        (have hWf := WFx.mk (ai @h3 <| ai @b6 <| ai @h8 <| ai @h9 <| ai @h10 <| ai @hx <| ai @he <| @e2); repeat' (first | refine zS ?_ | exact zE | with_reducible apply And.intro | with_reducible exact zB0 | with_reducible refine zB fun hb => ?_ | exact zC | refine zT ?_ | fail))
        refine hK (xs.length - (k + 1)) _ (by omega) ⟨k + 1, by omega, rfl, ?_⟩
        simp only [go_sem, simprocAttr, h3, b6, h8, h9, h10, Int.natCast_succ, hs, List.map_append, List.length_append, stE_eq]
      · have e2 : (xs[k].kind == 2) = false := by simpa using h2
        rw [if_neg h2] at hs
        (have hWf := WFx.mk (ai @h3 <| ai @b6 <| ai @h8 <| ai @h9 <| ai @h10 <| ai @hx <| ai @he <| @e2); repeat' (first | refine zS ?_ | exact zE | with_reducible apply And.intro | with_reducible exact zB0 | with_reducible refine zB fun hb => ?_ | exact zC | refine zT ?_ | fail))
        refine hK (xs.length - (k + 1)) _ (by omega) ⟨k + 1, by omega, rfl, ?_⟩
        simp only [go_sem, simprocAttr, h3, b6, h8, h9, h10, Int.natCast_succ, hs]
    · obtain rfl : k = xs.length := by omega
      rw [List.take_length] at h3 b6
      (have hWf := WFx.mk (ai @h3 <| ai @b6 <| ai @h8 <| ai @h9 <| @h10); repeat' (first | refine zS ?_ | exact zE | with_reducible apply And.intro | with_reducible exact zB0 | with_reducible refine zB fun hb => ?_ | exact zC | refine zT ?_ | fail))
theorem c_emit (s : CS) (env : List ByteArray) (i : MIns) (hl : s.ins.length ≤ 1000000) : FCon Tryz.prog 49 [.opt (cmpD s env), .ag i.enc] (fun r o => r = .s (.int .i64 s.ins.length) ∧ o = [.opt (cmpD (s.emit i) env), .un]) := by
  refine FCon.intro PM _ Tryz.func49 (by kernel_rfl) rfl _ Tryz.ntmps49 rfl [(1, 9, [8], [(8, 0)], (lin [8] [0, 1, 2, 3, 4, 5, 6, 7, 8]))] (by decide +kernel) (by simp) (by simp) rfl (by first | rfl | simp only [go_sem]) ?_
  (have hWf := WFx.mk (ai @cmpD_eq <| ai @MIns.enc_eq <| ai @emit_ins <| ai @emit_pats <| @emit_lost); repeat' (first | refine zS ?_ | exact zE | with_reducible apply And.intro | with_reducible exact zB0 | with_reducible refine zB fun hb => ?_ | exact zC | refine zT ?_ | fail))
  exact sI_congr (by push_cast; omega)
theorem setA_at {l : List MIns} {k : Nat} (h : k < l.length) (v : Int) : setA l k v = l.set k ⟨l[k].op, v, l[k].b, l[k].s⟩ := by unfold setA; rw [List.getElem?_eq_getElem h]
theorem setB_at {l : List MIns} {k : Nat} (h : k < l.length) (v : Int) : setB l k v = l.set k ⟨l[k].op, l[k].a, v, l[k].s⟩ := by unfold setB; rw [List.getElem?_eq_getElem h]
theorem c_here (s : CS) (env : List ByteArray) (k : Nat) (hk : k < s.ins.length) (hl : s.ins.length ≤ 1000000) : FCon Tryz.prog 129 [.opt (cmpD s env), .s (.int .i64 k)] (fun r o => r = .tup [] ∧ o = [.opt (cmpD (s.here k) env), .un]) := by
  have hx := getD_map MIns.enc s.ins k hk
  have he := MIns.enc_eq s.ins[k]
  have hst : (s.ins.map MIns.enc).set k [.s (.int .i64 s.ins[k].op), .s (.int .i64 s.ins.length), .s (.int .i64 s.ins[k].b), .s (.string s.ins[k].s)] = (s.here k).ins.map MIns.enc := by
    show _ = (setA s.ins k s.ins.length).map MIns.enc
    rw [setA_at hk, List.map_set]; rfl
  refine FCon.intro PM _ Tryz.func129 (by kernel_rfl) rfl _ Tryz.ntmps129 rfl [(0, 12, [], [], (lin [] [0, 1, 2, 3, 4, 5, 6, 7, 8, 9, 10, 11]))] (by decide +kernel) (by simp) (by simp) rfl (by first | rfl | simp only [go_sem]) ?_
  (have hWf := WFx.mk (ai @cmpD_eq <| ai @hx <| ai @he <| ai @hst <| ai @here_pats <| ai @here_lost <| @here_len); repeat' (first | refine zS ?_ | exact zE | with_reducible apply And.intro | with_reducible exact zB0 | with_reducible refine zB fun hb => ?_ | exact zC | refine zT ?_ | fail))
  all_goals rfl
theorem take_rev {α : Type} {l : List α} {q : Nat} (h : q < l.length) : (l.take (q + 1)).reverse = l[q] :: (l.take q).reverse := by
  rw [List.take_succ_eq_append_getElem h, List.reverse_append]; rfl
theorem nameC_some {x : ByteArray} {env : List ByteArray} {a : Nat} (s : CS) (h : varA env x = some a) : nameC x env s = s.emit ⟨6, a, 0, eS⟩ := by unfold nameC; rw [h]
theorem nameC_none {x : ByteArray} {env : List ByteArray} (s : CS) (h : varA env x = none) : nameC x env s = ⟨s.ins ++ [⟨7, 0, 0, x⟩], s.pats, s.lost || !givenM x⟩ := by unfold nameC; rw [h]
def lostC (s : CS) (b : Bool) : CS := ⟨s.ins, s.pats, b⟩
theorem c_name (s : CS) (env : List ByteArray) (x : ByteArray) (hl : s.ins.length ≤ 1000000) (hle : env.length ≤ 1000000) : FCon Tryz.prog 126 [.opt (cmpD s env), .s (.string x)] (fun r o => r = .tup [] ∧ o = [.opt (cmpD (nameC x env s) env), .un]) := by
  refine FCon.intro PM _ Tryz.func126 (by kernel_rfl) rfl _ Tryz.ntmps126 rfl [] (by decide +kernel) (by simp) (by simp) rfl (by first | rfl | simp only [go_sem]) ?_
  (have hWf := WFx.mk @cmpD_eq; repeat' (first | refine zS ?_ | exact zE | with_reducible apply And.intro | with_reducible exact zB0 | with_reducible refine zB fun hb => ?_ | exact zC | refine zT ?_ | fail))
  refine AC_loop (fun n σ => n ≤ env.length ∧ idxR x env.reverse 0 = idxR x (env.take n).reverse (env.length - n) ∧ σ.t 0 = .bx 900000 0 ∧ σ.t 1 = .s (.string x) ∧ σ.t 4 = .s (.int .i64 ((n : Int) - 1)) ∧
    σ.b 900000 = some (.box [.bs 1900000 4 s.ins.length, .bs 2900000 1 s.pats.length, .bs 3900000 1 env.length, .s (.bool s.lost)]) ∧ σ.b 1900000 = some (.arr 53 4 (s.ins.map MIns.enc)) ∧ σ.b 2900000 = some (.arr 114 1 (s.pats.map MPat.own)) ∧ σ.b 3900000 = some (.arr 9 1 (env.map stE))) env.length ⟨Nat.le_refl _, ?_, ?_⟩ ?_
  · rw [List.take_length, Nat.sub_self]
  · simp only [go_sem, simprocAttr]
  · rintro n σ ⟨hn, hix, h0, h1, h4, b0, b1, b2, b3⟩ K' hK
    cases n with
    | zero =>
      have hno : varA env x = none := by unfold varA; rw [hix]; rfl
      have h4 : σ.t 4 = .s (.int .i64 (-1)) := h4
      rw [nameC_none s hno]
      have hc : ∀ b, FCon Tryz.prog 49 [.opt [.osl 53 4 (s.ins.map MIns.enc), .osl 114 1 (s.pats.map MPat.own), .osl 9 1 (env.map stE), .s (.bool b)], .ag (MIns.mk 7 0 0 x).enc] (fun r o => r = .s (.int .i64 s.ins.length) ∧ o = [.opt [.osl 53 4 ((s.ins ++ [MIns.mk 7 0 0 x]).map MIns.enc), .osl 114 1 (s.pats.map MPat.own), .osl 9 1 (env.map stE), .s (.bool b)], .un]) := fun b => c_emit (lostC s b) env ⟨7, 0, 0, x⟩ hl
      cases hsl : s.lost with
      | true =>
        rw [hsl] at b0
        cases hg : givenM x with
        | true =>
          obtain ⟨rows, hne, hgc⟩ := c_given_t x hg
          (have hWf := WFx.mk (ai @h0 <| ai @h1 <| ai @h4 <| ai @b0 <| ai @b1 <| ai @b2 <| ai @b3 <| @hne); repeat' (first | refine zS ?_ | exact zE | with_reducible apply And.intro | refine zK (hgc) ?_ | refine zH (hc true) ?_ | with_reducible exact zB0 | with_reducible refine zB fun hb => ?_ | exact zC | refine zT ?_ | fail))
          all_goals first | rfl | exact ⟨_, rfl⟩
        | false =>
          have hgc := c_given_f x hg
          (have hWf := WFx.mk (ai @h0 <| ai @h1 <| ai @h4 <| ai @b0 <| ai @b1 <| ai @b2 <| @b3); repeat' (first | refine zS ?_ | exact zE | with_reducible apply And.intro | refine zK (hgc) ?_ | refine zH (hc true) ?_ | with_reducible exact zB0 | with_reducible refine zB fun hb => ?_ | exact zC | refine zT ?_ | fail))
          all_goals first | rfl | exact ⟨_, rfl⟩
      | false =>
        rw [hsl] at b0
        cases hg : givenM x with
        | true =>
          obtain ⟨rows, hne, hgc⟩ := c_given_t x hg
          (have hWf := WFx.mk (ai @h0 <| ai @h1 <| ai @h4 <| ai @b0 <| ai @b1 <| ai @b2 <| ai @b3 <| @hne); repeat' (first | refine zS ?_ | exact zE | with_reducible apply And.intro | refine zK (hgc) ?_ | refine zH (hc false) ?_ | with_reducible exact zB0 | with_reducible refine zB fun hb => ?_ | exact zC | refine zT ?_ | fail))
          all_goals first | rfl | exact ⟨_, rfl⟩
        | false =>
          have hgc := c_given_f x hg
          (have hWf := WFx.mk (ai @h0 <| ai @h1 <| ai @h4 <| ai @b0 <| ai @b1 <| ai @b2 <| @b3); repeat' (first | refine zS ?_ | exact zE | with_reducible apply And.intro | refine zK (hgc) ?_ | refine zH (hc true) ?_ | with_reducible exact zB0 | with_reducible refine zB fun hb => ?_ | exact zC | refine zT ?_ | fail))
          all_goals first | rfl | exact ⟨_, rfl⟩
    | succ q =>
      have hq : q < env.length := by omega
      have h4 : σ.t 4 = .s (.int .i64 q) := by rw [h4]; exact sI_congr (by push_cast; omega)
      have hx := getD_map stE env q hq
      have he := stE_eq env[q]
      rw [take_rev hq] at hix
      have hc := c_emit s env ⟨6, (env.length : Int) - 1 - q, 0, eS⟩ hl
      rw [cmpD_eq, cmpD_eq] at hc
      by_cases hp : env[q] = x
      · have hp' := str_beq_true hp
        have hv : varA env x = some (env.length - (q + 1)) := by unfold varA; rw [hix, idxR, if_pos hp]
        rw [nameC_some s hv]
        (have hWf := WFx.mk (ai @h0 <| ai @h1 <| ai @h4 <| ai @b0 <| ai @b1 <| ai @b2 <| ai @b3 <| ai @hx <| ai @he <| @hp'); repeat' (first | refine zS ?_ | exact zE | with_reducible apply And.intro | refine zH hc ?_ | with_reducible exact zB0 | with_reducible refine zB fun hb => ?_ | exact zC | refine zT ?_ | fail))
        have e : (env.length : Int) - 1 - q = ((env.length - (q + 1) : Nat) : Int) := by omega
        rw [e]
      · have hp' := str_beq_false hp
        (have hWf := WFx.mk (ai @h0 <| ai @h1 <| ai @h4 <| ai @b0 <| ai @b1 <| ai @b2 <| ai @b3 <| ai @hx <| ai @he <| @hp'); repeat' (first | refine zS ?_ | exact zE | with_reducible apply And.intro | with_reducible exact zB0 | with_reducible refine zB fun hb => ?_ | exact zC | refine zT ?_ | fail))
        refine hK q _ (by omega) ⟨by omega, ?_, ?_⟩
        · rw [hix, idxR, if_neg hp]
          congr 1; omega
        · simp only [go_sem, simprocAttr, h0, h1, h4, b0, b1, b2, b3]
abbrev Bd (t : ET) (env : List ByteArray) (s : CS) : Prop := s.ins.length + 4 * t.size ≤ 100000 ∧ s.pats.length + 2 * t.size ≤ 100000 ∧ env.length + 601 * t.size ≤ 1000000
def CE (t : ET) : Prop := ∀ (env : List ByteArray) (s : CS), Bd t env s → FCon Tryz.prog 48 [.opt (cmpD s env), exE t] (fun r o => r = .tup [] ∧ o = [.opt (cmpD (cmp true t env s) env), .un])
theorem c_cwithin {t : ET} (hE : CE t) (env names : List ByteArray) (s : CS) (hb : Bd t (env ++ names) s) : FCon Tryz.prog 128 [.opt (cmpD s env), exE t, .sl 1 (names.map stE)] (fun r o => r = .tup [] ∧ o = [.opt (cmpD (cmp true t (env ++ names) s) env), .un, .un]) := by
  have hc := hE (env ++ names) s hb
  rw [cmpD_eq, cmpD_eq, List.map_append] at hc
  have hbl := hb.2.2
  rw [List.length_append] at hbl
  have htk : (env.map stE ++ names.map stE).take env.length = env.map stE := List.take_left' (List.length_map ..)
  obtain ⟨a, l⟩ := t
  rw [exE_mk] at hc ⊢
  refine FCon.intro PM _ Tryz.func128 (by kernel_rfl) rfl _ Tryz.ntmps128 rfl [] (by decide +kernel) (by simp) (by simp) rfl (by first | rfl | simp only [go_sem]) ?_
  (have hWf := WFx.mk (ai @cmpD_eq <| @htk); repeat' (first | refine zS ?_ | exact zE | with_reducible apply And.intro | refine zH hc ?_ | with_reducible exact zB0 | with_reducible refine zB fun hb => ?_ | exact zC | refine zT ?_ | fail))
theorem c_function {t : ET} (hE : CE t) (ht : okT t) (op : Int) (env names : List ByteArray) (s : CS) (hb : s.ins.length + 4 * t.size + 8 ≤ 100000 ∧ s.pats.length + 2 * t.size ≤ 100000 ∧ env.length + names.length + 601 * t.size ≤ 1000000) : FCon Tryz.prog 127 [.opt (cmpD s env), .s (.int .i64 op), exE t, .sl 1 (names.map stE)] (fun r o => r = .tup [] ∧ o = [.opt (cmpD (funC op (cmp true t) names env s) env), .un, .un, .un]) := by
  have hg := cmp_gr true t ht
  have g1 := hg.hi (env ++ names) (headC op s)
  have g2 := hg.lo (env ++ names) (headC op s)
  have gh : (headC op s).ins.length = s.ins.length + 2 := by rw [headC, emit_len, emit_len]
  have c1 := c_emit s env ⟨op, 0, 0, eS⟩ (by omega)
  have c2 := c_emit (s.emit ⟨op, 0, 0, eS⟩) env ⟨12, 0, 0, eS⟩ (by rw [emit_len]; omega)
  have c3 := c_here ((s.emit ⟨op, 0, 0, eS⟩).emit ⟨12, 0, 0, eS⟩) env s.ins.length (by rw [emit_len, emit_len]; omega) (by rw [emit_len, emit_len]; omega)
  have e3 : ((s.emit ⟨op, 0, 0, eS⟩).emit ⟨12, 0, 0, eS⟩).here s.ins.length = headC op s := by
    unfold CS.here headC CS.emit
    rw [setA_at (by simp)]
    simp
  rw [e3] at c3
  have c4 := c_cwithin hE env names (headC op s) ⟨by omega, by have := hb.2.1; exact this, by rw [List.length_append]; omega⟩
  have c5 := c_emit (cmp true t (env ++ names) (headC op s)) env ⟨11, 0, 0, eS⟩ (by omega)
  have c6 := c_here ((cmp true t (env ++ names) (headC op s)).emit ⟨11, 0, 0, eS⟩) env (s.ins.length + 1) (by rw [emit_len]; omega) (by rw [emit_len]; omega)
  rw [emit_len] at c2
  obtain ⟨a, l⟩ := t
  rw [exE_mk] at c4 ⊢
  refine FCon.intro PM _ Tryz.func127 (by kernel_rfl) rfl _ Tryz.ntmps127 rfl [] (by decide +kernel) (by simp) (by simp) rfl (by first | rfl | simp only [go_sem]) ?_
  (have hWf := WFx.mk @cmpD_eq; repeat' (first | refine zS ?_ | exact zE | with_reducible apply And.intro | refine zH c1 ?_ | refine zH c2 ?_ | refine zH c3 ?_ | refine zH c4 ?_ | refine zH c5 ?_ | refine zH c6 ?_ | with_reducible exact zB0 | with_reducible refine zB fun hb => ?_ | exact zC | refine zT ?_ | fail))
  all_goals rfl
end Go.Proofs.YtahdaknaoogpkaaGreat

namespace Go.Proofs.YtahdaknaoogpkaaGreat
set_option linter.unusedVariables false
set_option linter.unusedSimpArgs false
open Go.RowKit Arb
theorem exS_mk (b : EI) (r : List ET) : exS (.mk b r) = [.pt [.s (.int .i64 b.kind), .s (.int .i64 b.at_), .s (.int .i64 b.n), .s (.string b.s), .sl 1 (r.map exS), .sl 1 (b.pats.map MPat.enc)]] := by show [exE _] = _; rw [exE_mk]
theorem c_ending (a : EI) (l : List ET) (hk : 1 ≤ a.kind ∧ a.kind ≤ 19) (hl : l.length ≤ 1000000) : FCon Tryz.prog 125 [exE (.mk a l)] (fun r _ => r = .ag (endI a l.length).enc) := by
  rw [exE_mk]
  rcases (show a.kind = 1 ∨ a.kind = 2 ∨ a.kind = 3 ∨ a.kind = 4 ∨ a.kind = 5 ∨ a.kind = 6 ∨ a.kind = 7 ∨ a.kind = 8 ∨ a.kind = 9 ∨ a.kind = 10 ∨ a.kind = 11 ∨ a.kind = 12 ∨ a.kind = 13 ∨ a.kind = 14 ∨ a.kind = 15 ∨ a.kind = 16 ∨ a.kind = 17 ∨ a.kind = 18 ∨ a.kind = 19 by omega) with k | k | k | k | k | k | k | k | k | k | k | k | k | k | k | k | k | k | k
  all_goals
    have e : endI a l.length = endI a l.length := rfl
    conv at e => rhs; unfold endI; simp only [k, Int.reduceEq, if_false, if_true, reduceIte]
    rw [e]
    clear hk
    refine FCon.intro PM _ Tryz.func125 (by kernel_rfl) rfl _ Tryz.ntmps125 rfl [(17, 9, [], [], (lin [] [0, 1, 2, 3, 4, 5, 6, 7, 8]))] (by decide +kernel) (by simp) (by simp) rfl (by first | rfl | simp only [go_sem]) ?_
    (have hWf := WFx.mk (ai @k <| @MIns.enc_eq); repeat' (first | refine zS ?_ | exact zE | with_reducible apply And.intro | with_reducible exact zB0 | with_reducible refine zB fun hb => ?_ | exact zC | refine zT ?_ | fail))
    all_goals first | rfl | skip
theorem stop_t {s : CS} (h : stopB true s = true) : s.lost = true ∨ (s.lost = false ∧ 3000 < s.ins.length) := by
  unfold stopB at h
  simp only [Bool.true_and, Bool.or_eq_true, decide_eq_true_eq] at h
  cases hs : s.lost with
  | true => exact .inl rfl
  | false =>
    rw [hs] at h
    rcases h with h | h
    · cases h
    · exact .inr ⟨rfl, h⟩
theorem stop_f {s : CS} (h : stopB true s = false) : s.lost = false ∧ s.ins.length ≤ 3000 := by
  unfold stopB at h
  simp only [Bool.true_and, Bool.or_eq_false_iff, decide_eq_false_iff_not] at h
  exact ⟨h.1, by omega⟩
theorem expr_stop (a : EI) (l : List ET) (env : List ByteArray) (s : CS) (hs : stopB true s = true) : FCon Tryz.prog 48 [.opt (cmpD s env), exE (.mk a l)] (fun r o => r = .tup [] ∧ o = [.opt (cmpD (cmp true (.mk a l) env s) env), .un]) := by
  rw [cmp_stop hs, exE_mk]
  rcases stop_t hs with h | ⟨h, h3⟩
  · refine FCon.intro PM _ Tryz.func48 (by kernel_rfl) rfl _ Tryz.ntmps48 rfl [(14, 12, [], [], (lin [] [0, 1, 2, 3, 4, 5, 6, 7, 8, 9, 10, 11])), (16, 26, [], [], (lin [] [0, 1, 2, 3, 4, 5, 6, 7, 8, 9, 10, 11, 12, 13, 14, 15, 16, 17, 18, 19, 20, 21, 22, 23, 24, 25])), (17, 12, [], [], (lin [] [0, 1, 2, 3, 4, 5, 6, 7, 8, 9, 10, 11])), (26, 12, [], [], (lin [] [0, 1, 2, 3, 4, 5, 6, 7, 8, 9, 10, 11])), (42, 12, [], [], (lin [] [0, 1, 2, 3, 4, 5, 6, 7, 8, 9, 10, 11]))] (by decide +kernel) (by simp) (by simp) rfl (by first | rfl | simp only [go_sem]) ?_
    (have hWf := WFx.mk (ai @cmpD_eq <| @h); repeat' (first | refine zS ?_ | exact zE | with_reducible apply And.intro | with_reducible exact zB0 | with_reducible refine zB fun hb => ?_ | exact zC | refine zT ?_ | fail))
    all_goals rfl
  · refine FCon.intro PM _ Tryz.func48 (by kernel_rfl) rfl _ Tryz.ntmps48 rfl [(14, 12, [], [], (lin [] [0, 1, 2, 3, 4, 5, 6, 7, 8, 9, 10, 11])), (16, 26, [], [], (lin [] [0, 1, 2, 3, 4, 5, 6, 7, 8, 9, 10, 11, 12, 13, 14, 15, 16, 17, 18, 19, 20, 21, 22, 23, 24, 25])), (17, 12, [], [], (lin [] [0, 1, 2, 3, 4, 5, 6, 7, 8, 9, 10, 11])), (26, 12, [], [], (lin [] [0, 1, 2, 3, 4, 5, 6, 7, 8, 9, 10, 11])), (42, 12, [], [], (lin [] [0, 1, 2, 3, 4, 5, 6, 7, 8, 9, 10, 11]))] (by decide +kernel) (by simp) (by simp) rfl (by first | rfl | simp only [go_sem]) ?_
    (have hWf := WFx.mk (ai @cmpD_eq <| @h); repeat' (first | refine zS ?_ | exact zE | with_reducible apply And.intro | with_reducible exact zB0 | with_reducible refine zB fun hb => ?_ | exact zC | refine zT ?_ | fail))
    all_goals rfl
theorem kidsC_succ (chk : Bool) {l : List ET} {k : Nat} (h : k < l.length) (env : List ByteArray) (s : CS) : kidsC ((l.take (k + 1)).map (cmp chk)) env s = cmp chk l[k] env (kidsC ((l.take k).map (cmp chk)) env s) := by
  unfold kidsC
  rw [List.take_succ_eq_append_getElem h, List.map_append, List.foldl_append]; rfl
theorem sizeL_split {l : List ET} {k : Nat} (h : k < l.length) : sizeL (l.take k) + l[k].size ≤ sizeL l := by
  have := List.take_append_drop k l
  have e := congrArg sizeL this
  rw [sizeL_app, List.drop_eq_getElem_cons h, sizeL_cons] at e
  omega
theorem expr_end (a : EI) (l : List ET) (ok : okT (.mk a l)) (ih : ∀ t ∈ l, CE t) (env : List ByteArray) (s : CS) (hb : Bd (.mk a l) env s) (hs : stopB true s = false) (he : endK a.kind = true) : FCon Tryz.prog 48 [.opt (cmpD s env), exE (.mk a l)] (fun r o => r = .tup [] ∧ o = [.opt (cmpD (cmp true (.mk a l) env s) env), .un]) := by
  obtain ⟨hl, h3⟩ := stop_f hs
  have hce := c_ending a l (kind_of ok.root) (by have := sizeL_len l; have := hb.1; rw [size_mk] at this; omega)
  rw [cmp_end hs he, exE_mk]
  rw [exE_mk] at hce
  have hne : (endI a l.length).op ≠ 0 := by
    unfold endK at he
    simp only [Bool.or_eq_true, beq_iff_eq] at he
    rcases he with (((((((((k | k) | k) | k) | k) | k) | k) | k) | k) | k) | k <;> (unfold endI; simp [k])
  have hee := MIns.enc_eq (endI a l.length)
  have hop : ((endI a l.length).op != 0) = true := by simpa using hne
  have hgr := fun (k : Nat) (h : k ≤ l.length) => gr_kids true (l.take k) fun t ht => cmp_gr true t (ok.kid t (List.mem_of_mem_take ht))
  obtain ⟨b1, b2, b3⟩ := hb
  rw [size_mk] at b1 b2 b3
  have hsl := sizeL_len l
  refine FCon.intro PM _ Tryz.func48 (by kernel_rfl) rfl _ Tryz.ntmps48 rfl [(14, 12, [], [], (lin [] [0, 1, 2, 3, 4, 5, 6, 7, 8, 9, 10, 11])), (16, 26, [], [], (lin [] [0, 1, 2, 3, 4, 5, 6, 7, 8, 9, 10, 11, 12, 13, 14, 15, 16, 17, 18, 19, 20, 21, 22, 23, 24, 25])), (17, 12, [], [], (lin [] [0, 1, 2, 3, 4, 5, 6, 7, 8, 9, 10, 11])), (26, 12, [], [], (lin [] [0, 1, 2, 3, 4, 5, 6, 7, 8, 9, 10, 11])), (42, 12, [], [], (lin [] [0, 1, 2, 3, 4, 5, 6, 7, 8, 9, 10, 11]))] (by decide +kernel) (by simp) (by simp) rfl (by first | rfl | simp only [go_sem]) ?_
  (have hWf := WFx.mk (ai @cmpD_eq <| ai @hl <| ai @hee <| @hop); repeat' (first | refine zS ?_ | exact zE | with_reducible apply And.intro | refine zK (hce) ?_ | with_reducible exact zB0 | with_reducible refine zB fun hb => ?_ | exact zC | refine zT ?_ | fail))
  refine AC_loop (fun n σ => ∃ k : Nat, k ≤ l.length ∧ n = l.length - k ∧ σ.t 0 = .bx 900000 0 ∧ σ.t 4 = .bx 4 0 ∧ σ.t 35 = .sl 1 (l.map exS) ∧ σ.t 36 = .s (.int .i64 l.length) ∧ σ.t 37 = .s (.int .i64 k) ∧ σ.b 4 = some (.box [.s (.int .i64 (endI a l.length).op), .s (.int .i64 (endI a l.length).a), .s (.int .i64 (endI a l.length).b), .s (.string (endI a l.length).s)]) ∧
    σ.b 900000 = some (.box [.bs 1900000 4 (kidsC ((l.take k).map (cmp true)) env s).ins.length, .bs 2900000 1 (kidsC ((l.take k).map (cmp true)) env s).pats.length, .bs 3900000 1 env.length, .s (.bool (kidsC ((l.take k).map (cmp true)) env s).lost)]) ∧ σ.b 1900000 = some (.arr 53 4 ((kidsC ((l.take k).map (cmp true)) env s).ins.map MIns.enc)) ∧ σ.b 2900000 = some (.arr 114 1 ((kidsC ((l.take k).map (cmp true)) env s).pats.map MPat.own)) ∧ σ.b 3900000 = some (.arr 9 1 (env.map stE))) l.length ⟨0, by omega, by omega, ?_⟩ ?_
  · simp only [go_sem, simprocAttr, Int.natCast_zero, List.take_zero, List.map_nil, kidsC, List.foldl_nil, hl]
  · rintro n σ ⟨k, hk, rfl, h0, h4, h35, h36, h37, c4, c0, c1, c2, c3⟩ K' hK
    by_cases hlt : k < l.length
    · have hx := getD_map exS l k hlt
      obtain ⟨b, r, hbr⟩ : ∃ b r, l[k] = .mk b r := ⟨_, _, Arb.eta _⟩
      have hex : exS l[k] = [.pt [.s (.int .i64 b.kind), .s (.int .i64 b.at_), .s (.int .i64 b.n), .s (.string b.s), .sl 1 (r.map exS), .sl 1 (b.pats.map MPat.enc)]] := by rw [hbr, exS_mk]
      have hst := kidsC_succ true hlt env s
      have g := hgr k hk
      have g1 := g.hi env s
      have g2 := g.phi env s
      have hsp := sizeL_split hlt
      have hc := ih l[k] (List.getElem_mem hlt) env (kidsC ((l.take k).map (cmp true)) env s) ⟨by omega, by omega, by omega⟩
      rw [← hst] at hc
      have hce : exE l[k] = .pt [.s (.int .i64 b.kind), .s (.int .i64 b.at_), .s (.int .i64 b.n), .s (.string b.s), .sl 1 (r.map exS), .sl 1 (b.pats.map MPat.enc)] := by rw [hbr, exE_mk]
      rw [hce] at hc
      (have hWf := WFx.mk (ai @cmpD_eq <| ai @h0 <| ai @h4 <| ai @h35 <| ai @h36 <| ai @h37 <| ai @c4 <| ai @c0 <| ai @c1 <| ai @c2 <| ai @c3 <| ai @hx <| @hex); repeat' (first | refine zS ?_ | exact zE | with_reducible apply And.intro | refine zH hc ?_ | with_reducible exact zB0 | with_reducible refine zB fun hb => ?_ | exact zC | refine zT ?_ | fail))
      refine hK (l.length - (k + 1)) _ (by omega) ⟨k + 1, by omega, rfl, ?_⟩
      simp only [go_sem, simprocAttr, h0, h4, h35, h36, h37, c4, c0, c1, c2, c3, Int.natCast_succ, cmpD_eq]
    · obtain rfl : k = l.length := by omega
      have g := (hgr l.length hk).hi env s
      rw [List.take_length] at c0 c1 c2 g
      have hc := c_emit (kidsC (l.map (cmp true)) env s) env (endI a l.length) (by omega)
      rw [hee] at hc
      (have hWf := WFx.mk (ai @cmpD_eq <| ai @h0 <| ai @h4 <| ai @h35 <| ai @h36 <| ai @h37 <| ai @c4 <| ai @c0 <| ai @c1 <| ai @c2 <| @c3); repeat' (first | refine zS ?_ | exact zE | with_reducible apply And.intro | refine zH hc ?_ | with_reducible exact zB0 | with_reducible refine zB fun hb => ?_ | exact zC | refine zT ?_ | fail))
end Go.Proofs.YtahdaknaoogpkaaGreat

namespace Go.Proofs.YtahdaknaoogpkaaGreat
set_option linter.unusedVariables false
set_option linter.unusedSimpArgs false
open Go.RowKit Arb

theorem expr_func (a : EI) (x : ET) (ix : CE x) (ox : okT x) (env : List ByteArray) (s0 : CS) (hb : Bd (.mk a [x]) env s0) (hs : stopB true s0 = false) (k : a.kind = 5) : FCon Tryz.prog 48 [.opt (cmpD s0 env), exE (.mk a [x])] (fun r o => r = .tup [] ∧ o = [.opt (cmpD (cmp true (.mk a [x]) env s0) env), .un]) := by
  obtain ⟨hl, h3⟩ := stop_f hs
  have hce := c_ending a [x] (by omega) (by simp)
  have hee : ∀ n, (endI a n).enc = [.s (.int .i64 0), .s (.int .i64 0), .s (.int .i64 0), .s (.string eS)] := fun n => by unfold endI; simp [k, MIns.enc]
  obtain ⟨b1, b2, b3⟩ := hb
  simp only [size_mk, sizeL_cons, sizeL_nil] at b1 b2 b3
  have zx := size_pos x
  rw [cmp_fun hs k]
  have c1 := c_function ix ox 8 env [a.s] s0 ⟨by omega, by omega, by simp only [List.length_cons, List.length_nil]; omega⟩
  have q1 := And.intro ((gr_fun (cmp_gr true x ox) 8 [a.s]).lo env s0) (And.intro ((gr_fun (cmp_gr true x ox) 8 [a.s]).hi env s0) ((gr_fun (cmp_gr true x ox) 8 [a.s]).phi env s0))
  obtain ⟨s1, h1⟩ : ∃ q, q = funC 8 (cmp true x) [a.s] env s0 := ⟨_, rfl⟩
  rw [← h1] at c1 q1
  have hf : funC 8 (cmp true x) [a.s] env s0 = s1 := by rw [h1]
  rw [hf]
  clear hf h1
  obtain ⟨gx, rx⟩ := x
  simp only [exE_mk, List.map_cons, List.map_nil, exS_mk] at hce ⊢
  simp only [exE_mk, List.map_cons, List.map_nil, stE_eq] at c1
  rw [k] at hce
  simp only [cmpD_eq s0 env, hl] at c1
  refine FCon.intro PM _ Tryz.func48 (by kernel_rfl) rfl _ Tryz.ntmps48 rfl [(14, 12, [], [], (lin [] [0, 1, 2, 3, 4, 5, 6, 7, 8, 9, 10, 11])), (16, 26, [], [], (lin [] [0, 1, 2, 3, 4, 5, 6, 7, 8, 9, 10, 11, 12, 13, 14, 15, 16, 17, 18, 19, 20, 21, 22, 23, 24, 25])), (17, 12, [], [], (lin [] [0, 1, 2, 3, 4, 5, 6, 7, 8, 9, 10, 11])), (26, 12, [], [], (lin [] [0, 1, 2, 3, 4, 5, 6, 7, 8, 9, 10, 11])), (42, 12, [], [], (lin [] [0, 1, 2, 3, 4, 5, 6, 7, 8, 9, 10, 11]))] (by decide +kernel) (by simp) (by simp) rfl (by first | rfl | simp only [go_sem]) ?_
  (have hWf := WFx.mk (ai @cmpD_eq <| ai @hl <| ai @hee <| ai @k <| @stE_eq); repeat' (first | refine zS ?_ | exact zE | with_reducible apply And.intro | refine zK (hce) ?_ | refine zH c1 ?_ | with_reducible exact zB0 | with_reducible refine zB fun hb => ?_ | exact zC | refine zT ?_ | fail))
  all_goals first | rfl | skip
theorem expr_rec_ (a : EI) (b : EI) (x y : ET) (ix : CE x) (ox : okT x) (iy : CE y) (oy : okT y) (env : List ByteArray) (s0 : CS) (hb : Bd (.mk a [.mk b [x], y]) env s0) (hs : stopB true s0 = false) (k : a.kind = 8) : FCon Tryz.prog 48 [.opt (cmpD s0 env), exE (.mk a [.mk b [x], y])] (fun r o => r = .tup [] ∧ o = [.opt (cmpD (cmp true (.mk a [.mk b [x], y]) env s0) env), .un]) := by
  obtain ⟨hl, h3⟩ := stop_f hs
  have hce := c_ending a [.mk b [x], y] (by omega) (by simp)
  have hee : ∀ n, (endI a n).enc = [.s (.int .i64 0), .s (.int .i64 0), .s (.int .i64 0), .s (.string eS)] := fun n => by unfold endI; simp [k, MIns.enc]
  obtain ⟨b1, b2, b3⟩ := hb
  simp only [size_mk, sizeL_cons, sizeL_nil] at b1 b2 b3
  have zx := size_pos x
  have zy := size_pos y
  rw [cmp_rec hs k]
  have c1 := c_function ix ox 9 env [a.s, b.s] s0 ⟨by omega, by omega, by simp only [List.length_cons, List.length_nil]; omega⟩
  have q1 := And.intro ((gr_fun (cmp_gr true x ox) 9 [a.s, b.s]).lo env s0) (And.intro ((gr_fun (cmp_gr true x ox) 9 [a.s, b.s]).hi env s0) ((gr_fun (cmp_gr true x ox) 9 [a.s, b.s]).phi env s0))
  obtain ⟨s1, h1⟩ : ∃ q, q = funC 9 (cmp true x) [a.s, b.s] env s0 := ⟨_, rfl⟩
  rw [← h1] at c1 q1
  have c2 := c_cwithin iy env [a.s] s1 ⟨by omega, by omega, by rw [List.length_append]; simp only [List.length_cons, List.length_nil]; omega⟩
  have q2 := And.intro ((cmp_gr true y oy).lo (env ++ [a.s]) s1) (And.intro ((cmp_gr true y oy).hi (env ++ [a.s]) s1) ((cmp_gr true y oy).phi (env ++ [a.s]) s1))
  obtain ⟨s2, h2⟩ : ∃ q, q = cmp true y (env ++ [a.s]) s1 := ⟨_, rfl⟩
  rw [← h2] at c2 q2
  have c3 := c_emit s2 env ⟨15, 1, 0, eS⟩ (by omega)
  have q3 : (s2.emit ⟨15, 1, 0, eS⟩).ins.length = s2.ins.length + 1 ∧ (s2.emit ⟨15, 1, 0, eS⟩).pats.length = s2.pats.length := ⟨emit_len _ _, rfl⟩
  obtain ⟨s3, h3⟩ : ∃ q, q = s2.emit ⟨15, 1, 0, eS⟩ := ⟨_, rfl⟩
  rw [← h3] at c3 q3
  have hf : (cmp true y (env ++ [a.s]) (funC 9 (cmp true x) [a.s, b.s] env s0)).emit ⟨15, 1, 0, eS⟩ = s3 := by rw [h3, h2, h1]
  rw [hf]
  clear hf h1 h2 h3
  obtain ⟨gx, rx⟩ := x
  obtain ⟨gy, ry⟩ := y
  simp only [exE_mk, List.map_cons, List.map_nil, exS_mk] at hce ⊢
  simp only [exE_mk, List.map_cons, List.map_nil, stE_eq] at c1
  simp only [exE_mk, List.map_cons, List.map_nil, stE_eq] at c2
  rw [k] at hce
  simp only [cmpD_eq s0 env, hl] at c1
  refine FCon.intro PM _ Tryz.func48 (by kernel_rfl) rfl _ Tryz.ntmps48 rfl [(14, 12, [], [], (lin [] [0, 1, 2, 3, 4, 5, 6, 7, 8, 9, 10, 11])), (16, 26, [], [], (lin [] [0, 1, 2, 3, 4, 5, 6, 7, 8, 9, 10, 11, 12, 13, 14, 15, 16, 17, 18, 19, 20, 21, 22, 23, 24, 25])), (17, 12, [], [], (lin [] [0, 1, 2, 3, 4, 5, 6, 7, 8, 9, 10, 11])), (26, 12, [], [], (lin [] [0, 1, 2, 3, 4, 5, 6, 7, 8, 9, 10, 11])), (42, 12, [], [], (lin [] [0, 1, 2, 3, 4, 5, 6, 7, 8, 9, 10, 11]))] (by decide +kernel) (by simp) (by simp) rfl (by first | rfl | simp only [go_sem]) ?_
  (have hWf := WFx.mk (ai @cmpD_eq <| ai @hl <| ai @hee <| ai @k <| @stE_eq); repeat' (first | refine zS ?_ | exact zE | with_reducible apply And.intro | refine zK (hce) ?_ | refine zH c1 ?_ | refine zH c2 ?_ | refine zH c3 ?_ | with_reducible exact zB0 | with_reducible refine zB fun hb => ?_ | exact zC | refine zT ?_ | fail))
  all_goals first | rfl | skip
theorem expr_seq (a : EI) (x y : ET) (ix : CE x) (ox : okT x) (iy : CE y) (oy : okT y) (env : List ByteArray) (s0 : CS) (hb : Bd (.mk a [x, y]) env s0) (hs : stopB true s0 = false) (k : a.kind = 19) : FCon Tryz.prog 48 [.opt (cmpD s0 env), exE (.mk a [x, y])] (fun r o => r = .tup [] ∧ o = [.opt (cmpD (cmp true (.mk a [x, y]) env s0) env), .un]) := by
  obtain ⟨hl, h3⟩ := stop_f hs
  have hce := c_ending a [x, y] (by omega) (by simp)
  have hee : ∀ n, (endI a n).enc = [.s (.int .i64 0), .s (.int .i64 0), .s (.int .i64 0), .s (.string eS)] := fun n => by unfold endI; simp [k, MIns.enc]
  obtain ⟨b1, b2, b3⟩ := hb
  simp only [size_mk, sizeL_cons, sizeL_nil] at b1 b2 b3
  have zx := size_pos x
  have zy := size_pos y
  rw [cmp_seq hs k]
  have c1 := ix env s0 ⟨by omega, by omega, by omega⟩
  have q1 := And.intro ((cmp_gr true x ox).lo env s0) (And.intro ((cmp_gr true x ox).hi env s0) ((cmp_gr true x ox).phi env s0))
  obtain ⟨s1, h1⟩ : ∃ q, q = cmp true x env s0 := ⟨_, rfl⟩
  rw [← h1] at c1 q1
  have c2 := c_emit s1 env ⟨25, 0, 0, eS⟩ (by omega)
  have q2 : (s1.emit ⟨25, 0, 0, eS⟩).ins.length = s1.ins.length + 1 ∧ (s1.emit ⟨25, 0, 0, eS⟩).pats.length = s1.pats.length := ⟨emit_len _ _, rfl⟩
  obtain ⟨s2, h2⟩ : ∃ q, q = s1.emit ⟨25, 0, 0, eS⟩ := ⟨_, rfl⟩
  rw [← h2] at c2 q2
  have c3 := iy env s2 ⟨by omega, by omega, by omega⟩
  have q3 := And.intro ((cmp_gr true y oy).lo env s2) (And.intro ((cmp_gr true y oy).hi env s2) ((cmp_gr true y oy).phi env s2))
  obtain ⟨s3, h3⟩ : ∃ q, q = cmp true y env s2 := ⟨_, rfl⟩
  rw [← h3] at c3 q3
  have hf : cmp true y env ((cmp true x env s0).emit ⟨25, 0, 0, eS⟩) = s3 := by rw [h3, h2, h1]
  rw [hf]
  clear hf h1 h2 h3
  obtain ⟨gx, rx⟩ := x
  obtain ⟨gy, ry⟩ := y
  simp only [exE_mk, List.map_cons, List.map_nil, exS_mk] at hce ⊢
  simp only [exE_mk, List.map_cons, List.map_nil, stE_eq] at c1
  simp only [exE_mk, List.map_cons, List.map_nil, stE_eq] at c3
  rw [k] at hce
  simp only [cmpD_eq s0 env, hl] at c1
  refine FCon.intro PM _ Tryz.func48 (by kernel_rfl) rfl _ Tryz.ntmps48 rfl [(14, 12, [], [], (lin [] [0, 1, 2, 3, 4, 5, 6, 7, 8, 9, 10, 11])), (16, 26, [], [], (lin [] [0, 1, 2, 3, 4, 5, 6, 7, 8, 9, 10, 11, 12, 13, 14, 15, 16, 17, 18, 19, 20, 21, 22, 23, 24, 25])), (17, 12, [], [], (lin [] [0, 1, 2, 3, 4, 5, 6, 7, 8, 9, 10, 11])), (26, 12, [], [], (lin [] [0, 1, 2, 3, 4, 5, 6, 7, 8, 9, 10, 11])), (42, 12, [], [], (lin [] [0, 1, 2, 3, 4, 5, 6, 7, 8, 9, 10, 11]))] (by decide +kernel) (by simp) (by simp) rfl (by first | rfl | simp only [go_sem]) ?_
  (have hWf := WFx.mk (ai @cmpD_eq <| ai @hl <| ai @hee <| ai @k <| @stE_eq); repeat' (first | refine zS ?_ | exact zE | with_reducible apply And.intro | refine zK (hce) ?_ | refine zH c1 ?_ | refine zH c2 ?_ | refine zH c3 ?_ | with_reducible exact zB0 | with_reducible refine zB fun hb => ?_ | exact zC | refine zT ?_ | fail))
  all_goals first | rfl | skip
theorem expr_let_ (a : EI) (x y : ET) (ix : CE x) (ox : okT x) (iy : CE y) (oy : okT y) (env : List ByteArray) (s0 : CS) (hb : Bd (.mk a [x, y]) env s0) (hs : stopB true s0 = false) (k : a.kind = 7) : FCon Tryz.prog 48 [.opt (cmpD s0 env), exE (.mk a [x, y])] (fun r o => r = .tup [] ∧ o = [.opt (cmpD (cmp true (.mk a [x, y]) env s0) env), .un]) := by
  obtain ⟨hl, h3⟩ := stop_f hs
  have hce := c_ending a [x, y] (by omega) (by simp)
  have hee : ∀ n, (endI a n).enc = [.s (.int .i64 0), .s (.int .i64 0), .s (.int .i64 0), .s (.string eS)] := fun n => by unfold endI; simp [k, MIns.enc]
  obtain ⟨b1, b2, b3⟩ := hb
  simp only [size_mk, sizeL_cons, sizeL_nil] at b1 b2 b3
  have zx := size_pos x
  have zy := size_pos y
  rw [cmp_let hs k]
  have c1 := ix env s0 ⟨by omega, by omega, by omega⟩
  have q1 := And.intro ((cmp_gr true x ox).lo env s0) (And.intro ((cmp_gr true x ox).hi env s0) ((cmp_gr true x ox).phi env s0))
  obtain ⟨s1, h1⟩ : ∃ q, q = cmp true x env s0 := ⟨_, rfl⟩
  rw [← h1] at c1 q1
  have c2 := c_emit s1 env ⟨14, 0, 0, eS⟩ (by omega)
  have q2 : (s1.emit ⟨14, 0, 0, eS⟩).ins.length = s1.ins.length + 1 ∧ (s1.emit ⟨14, 0, 0, eS⟩).pats.length = s1.pats.length := ⟨emit_len _ _, rfl⟩
  obtain ⟨s2, h2⟩ : ∃ q, q = s1.emit ⟨14, 0, 0, eS⟩ := ⟨_, rfl⟩
  rw [← h2] at c2 q2
  have c3 := c_cwithin iy env [a.s] s2 ⟨by omega, by omega, by rw [List.length_append]; simp only [List.length_cons, List.length_nil]; omega⟩
  have q3 := And.intro ((cmp_gr true y oy).lo (env ++ [a.s]) s2) (And.intro ((cmp_gr true y oy).hi (env ++ [a.s]) s2) ((cmp_gr true y oy).phi (env ++ [a.s]) s2))
  obtain ⟨s3, h3⟩ : ∃ q, q = cmp true y (env ++ [a.s]) s2 := ⟨_, rfl⟩
  rw [← h3] at c3 q3
  have c4 := c_emit s3 env ⟨15, 1, 0, eS⟩ (by omega)
  have q4 : (s3.emit ⟨15, 1, 0, eS⟩).ins.length = s3.ins.length + 1 ∧ (s3.emit ⟨15, 1, 0, eS⟩).pats.length = s3.pats.length := ⟨emit_len _ _, rfl⟩
  obtain ⟨s4, h4⟩ : ∃ q, q = s3.emit ⟨15, 1, 0, eS⟩ := ⟨_, rfl⟩
  rw [← h4] at c4 q4
  have hf : (cmp true y (env ++ [a.s]) ((cmp true x env s0).emit ⟨14, 0, 0, eS⟩)).emit ⟨15, 1, 0, eS⟩ = s4 := by rw [h4, h3, h2, h1]
  rw [hf]
  clear hf h1 h2 h3 h4
  obtain ⟨gx, rx⟩ := x
  obtain ⟨gy, ry⟩ := y
  simp only [exE_mk, List.map_cons, List.map_nil, exS_mk] at hce ⊢
  simp only [exE_mk, List.map_cons, List.map_nil, stE_eq] at c1
  simp only [exE_mk, List.map_cons, List.map_nil, stE_eq] at c3
  rw [k] at hce
  simp only [cmpD_eq s0 env, hl] at c1
  refine FCon.intro PM _ Tryz.func48 (by kernel_rfl) rfl _ Tryz.ntmps48 rfl [(14, 12, [], [], (lin [] [0, 1, 2, 3, 4, 5, 6, 7, 8, 9, 10, 11])), (16, 26, [], [], (lin [] [0, 1, 2, 3, 4, 5, 6, 7, 8, 9, 10, 11, 12, 13, 14, 15, 16, 17, 18, 19, 20, 21, 22, 23, 24, 25])), (17, 12, [], [], (lin [] [0, 1, 2, 3, 4, 5, 6, 7, 8, 9, 10, 11])), (26, 12, [], [], (lin [] [0, 1, 2, 3, 4, 5, 6, 7, 8, 9, 10, 11])), (42, 12, [], [], (lin [] [0, 1, 2, 3, 4, 5, 6, 7, 8, 9, 10, 11]))] (by decide +kernel) (by simp) (by simp) rfl (by first | rfl | simp only [go_sem]) ?_
  (have hWf := WFx.mk (ai @cmpD_eq <| ai @hl <| ai @hee <| ai @k <| @stE_eq); repeat' (first | refine zS ?_ | exact zE | with_reducible apply And.intro | refine zK (hce) ?_ | refine zH c1 ?_ | refine zH c2 ?_ | refine zH c3 ?_ | refine zH c4 ?_ | with_reducible exact zB0 | with_reducible refine zB fun hb => ?_ | exact zC | refine zT ?_ | fail))
  all_goals first | rfl | skip
theorem expr_if_ (a : EI) (x y z : ET) (ix : CE x) (ox : okT x) (iy : CE y) (oy : okT y) (iz : CE z) (oz : okT z) (env : List ByteArray) (s0 : CS) (hb : Bd (.mk a [x, y, z]) env s0) (hs : stopB true s0 = false) (k : a.kind = 9) : FCon Tryz.prog 48 [.opt (cmpD s0 env), exE (.mk a [x, y, z])] (fun r o => r = .tup [] ∧ o = [.opt (cmpD (cmp true (.mk a [x, y, z]) env s0) env), .un]) := by
  obtain ⟨hl, h3⟩ := stop_f hs
  have hce := c_ending a [x, y, z] (by omega) (by simp)
  have hee : ∀ n, (endI a n).enc = [.s (.int .i64 0), .s (.int .i64 0), .s (.int .i64 0), .s (.string eS)] := fun n => by unfold endI; simp [k, MIns.enc]
  obtain ⟨b1, b2, b3⟩ := hb
  simp only [size_mk, sizeL_cons, sizeL_nil] at b1 b2 b3
  have zx := size_pos x
  have zy := size_pos y
  have zz := size_pos z
  rw [cmp_if hs k]
  have c1 := ix env s0 ⟨by omega, by omega, by omega⟩
  have q1 := And.intro ((cmp_gr true x ox).lo env s0) (And.intro ((cmp_gr true x ox).hi env s0) ((cmp_gr true x ox).phi env s0))
  obtain ⟨s1, h1⟩ : ∃ q, q = cmp true x env s0 := ⟨_, rfl⟩
  rw [← h1] at c1 q1
  have c2 := c_emit s1 env ⟨13, 0, 0, eS⟩ (by omega)
  have q2 : (s1.emit ⟨13, 0, 0, eS⟩).ins.length = s1.ins.length + 1 ∧ (s1.emit ⟨13, 0, 0, eS⟩).pats.length = s1.pats.length := ⟨emit_len _ _, rfl⟩
  obtain ⟨s2, h2⟩ : ∃ q, q = s1.emit ⟨13, 0, 0, eS⟩ := ⟨_, rfl⟩
  rw [← h2] at c2 q2
  have c3 := iy env s2 ⟨by omega, by omega, by omega⟩
  have q3 := And.intro ((cmp_gr true y oy).lo env s2) (And.intro ((cmp_gr true y oy).hi env s2) ((cmp_gr true y oy).phi env s2))
  obtain ⟨s3, h3⟩ : ∃ q, q = cmp true y env s2 := ⟨_, rfl⟩
  rw [← h3] at c3 q3
  have c4 := c_emit s3 env ⟨12, 0, 0, eS⟩ (by omega)
  have q4 : (s3.emit ⟨12, 0, 0, eS⟩).ins.length = s3.ins.length + 1 ∧ (s3.emit ⟨12, 0, 0, eS⟩).pats.length = s3.pats.length := ⟨emit_len _ _, rfl⟩
  obtain ⟨s4, h4⟩ : ∃ q, q = s3.emit ⟨12, 0, 0, eS⟩ := ⟨_, rfl⟩
  rw [← h4] at c4 q4
  have c5 := c_here s4 env s1.ins.length (by omega) (by omega)
  have q5 : (s4.here s1.ins.length).ins.length = s4.ins.length ∧ (s4.here s1.ins.length).pats.length = s4.pats.length := ⟨here_len _ _, rfl⟩
  obtain ⟨s5, h5⟩ : ∃ q, q = s4.here s1.ins.length := ⟨_, rfl⟩
  rw [← h5] at c5 q5
  have c6 := iz env s5 ⟨by omega, by omega, by omega⟩
  have q6 := And.intro ((cmp_gr true z oz).lo env s5) (And.intro ((cmp_gr true z oz).hi env s5) ((cmp_gr true z oz).phi env s5))
  obtain ⟨s6, h6⟩ : ∃ q, q = cmp true z env s5 := ⟨_, rfl⟩
  rw [← h6] at c6 q6
  have c7 := c_here s6 env s3.ins.length (by omega) (by omega)
  have q7 : (s6.here s3.ins.length).ins.length = s6.ins.length ∧ (s6.here s3.ins.length).pats.length = s6.pats.length := ⟨here_len _ _, rfl⟩
  obtain ⟨s7, h7⟩ : ∃ q, q = s6.here s3.ins.length := ⟨_, rfl⟩
  rw [← h7] at c7 q7
  have hf : ifC (cmp true x) (cmp true y) (cmp true z) env s0 = s7 := by rw [h7, h6, h5, h4, h3, h2, h1]; rfl
  rw [hf]
  clear hf h1 h2 h3 h4 h5 h6 h7
  obtain ⟨gx, rx⟩ := x
  obtain ⟨gy, ry⟩ := y
  obtain ⟨gz, rz⟩ := z
  simp only [exE_mk, List.map_cons, List.map_nil, exS_mk] at hce ⊢
  simp only [exE_mk, List.map_cons, List.map_nil, stE_eq] at c1
  simp only [exE_mk, List.map_cons, List.map_nil, stE_eq] at c3
  simp only [exE_mk, List.map_cons, List.map_nil, stE_eq] at c6
  rw [k] at hce
  simp only [cmpD_eq s0 env, hl] at c1
  refine FCon.intro PM _ Tryz.func48 (by kernel_rfl) rfl _ Tryz.ntmps48 rfl [(14, 12, [], [], (lin [] [0, 1, 2, 3, 4, 5, 6, 7, 8, 9, 10, 11])), (16, 26, [], [], (lin [] [0, 1, 2, 3, 4, 5, 6, 7, 8, 9, 10, 11, 12, 13, 14, 15, 16, 17, 18, 19, 20, 21, 22, 23, 24, 25])), (17, 12, [], [], (lin [] [0, 1, 2, 3, 4, 5, 6, 7, 8, 9, 10, 11])), (26, 12, [], [], (lin [] [0, 1, 2, 3, 4, 5, 6, 7, 8, 9, 10, 11])), (42, 12, [], [], (lin [] [0, 1, 2, 3, 4, 5, 6, 7, 8, 9, 10, 11]))] (by decide +kernel) (by simp) (by simp) rfl (by first | rfl | simp only [go_sem]) ?_
  (have hWf := WFx.mk (ai @cmpD_eq <| ai @hl <| ai @hee <| ai @k <| @stE_eq); repeat' (first | refine zS ?_ | exact zE | with_reducible apply And.intro | refine zK (hce) ?_ | refine zH c1 ?_ | refine zH c2 ?_ | refine zH c3 ?_ | refine zH c4 ?_ | refine zH c5 ?_ | refine zH c6 ?_ | refine zH c7 ?_ | with_reducible exact zB0 | with_reducible refine zB fun hb => ?_ | exact zC | refine zT ?_ | fail))
  all_goals first | rfl | skip
theorem expr_try_ (a : EI) (x y : ET) (ix : CE x) (ox : okT x) (iy : CE y) (oy : okT y) (env : List ByteArray) (s0 : CS) (hb : Bd (.mk a [x, y]) env s0) (hs : stopB true s0 = false) (k : a.kind = 15) : FCon Tryz.prog 48 [.opt (cmpD s0 env), exE (.mk a [x, y])] (fun r o => r = .tup [] ∧ o = [.opt (cmpD (cmp true (.mk a [x, y]) env s0) env), .un]) := by
  obtain ⟨hl, h3⟩ := stop_f hs
  have hce := c_ending a [x, y] (by omega) (by simp)
  have hee : ∀ n, (endI a n).enc = [.s (.int .i64 0), .s (.int .i64 0), .s (.int .i64 0), .s (.string eS)] := fun n => by unfold endI; simp [k, MIns.enc]
  obtain ⟨b1, b2, b3⟩ := hb
  simp only [size_mk, sizeL_cons, sizeL_nil] at b1 b2 b3
  have zx := size_pos x
  have zy := size_pos y
  rw [cmp_try hs k]
  have c1 := c_emit s0 env ⟨18, 0, 0, eS⟩ (by omega)
  have q1 : (s0.emit ⟨18, 0, 0, eS⟩).ins.length = s0.ins.length + 1 ∧ (s0.emit ⟨18, 0, 0, eS⟩).pats.length = s0.pats.length := ⟨emit_len _ _, rfl⟩
  obtain ⟨s1, h1⟩ : ∃ q, q = s0.emit ⟨18, 0, 0, eS⟩ := ⟨_, rfl⟩
  rw [← h1] at c1 q1
  have c2 := ix env s1 ⟨by omega, by omega, by omega⟩
  have q2 := And.intro ((cmp_gr true x ox).lo env s1) (And.intro ((cmp_gr true x ox).hi env s1) ((cmp_gr true x ox).phi env s1))
  obtain ⟨s2, h2⟩ : ∃ q, q = cmp true x env s1 := ⟨_, rfl⟩
  rw [← h2] at c2 q2
  have c3 := c_emit s2 env ⟨19, 0, 0, eS⟩ (by omega)
  have q3 : (s2.emit ⟨19, 0, 0, eS⟩).ins.length = s2.ins.length + 1 ∧ (s2.emit ⟨19, 0, 0, eS⟩).pats.length = s2.pats.length := ⟨emit_len _ _, rfl⟩
  obtain ⟨s3, h3⟩ : ∃ q, q = s2.emit ⟨19, 0, 0, eS⟩ := ⟨_, rfl⟩
  rw [← h3] at c3 q3
  have c4 := c_emit s3 env ⟨12, 0, 0, eS⟩ (by omega)
  have q4 : (s3.emit ⟨12, 0, 0, eS⟩).ins.length = s3.ins.length + 1 ∧ (s3.emit ⟨12, 0, 0, eS⟩).pats.length = s3.pats.length := ⟨emit_len _ _, rfl⟩
  obtain ⟨s4, h4⟩ : ∃ q, q = s3.emit ⟨12, 0, 0, eS⟩ := ⟨_, rfl⟩
  rw [← h4] at c4 q4
  have c5 := c_here s4 env s0.ins.length (by omega) (by omega)
  have q5 : (s4.here s0.ins.length).ins.length = s4.ins.length ∧ (s4.here s0.ins.length).pats.length = s4.pats.length := ⟨here_len _ _, rfl⟩
  obtain ⟨s5, h5⟩ : ∃ q, q = s4.here s0.ins.length := ⟨_, rfl⟩
  rw [← h5] at c5 q5
  have c6 := c_cwithin iy env [a.s] s5 ⟨by omega, by omega, by rw [List.length_append]; simp only [List.length_cons, List.length_nil]; omega⟩
  have q6 := And.intro ((cmp_gr true y oy).lo (env ++ [a.s]) s5) (And.intro ((cmp_gr true y oy).hi (env ++ [a.s]) s5) ((cmp_gr true y oy).phi (env ++ [a.s]) s5))
  obtain ⟨s6, h6⟩ : ∃ q, q = cmp true y (env ++ [a.s]) s5 := ⟨_, rfl⟩
  rw [← h6] at c6 q6
  have c7 := c_emit s6 env ⟨15, 1, 0, eS⟩ (by omega)
  have q7 : (s6.emit ⟨15, 1, 0, eS⟩).ins.length = s6.ins.length + 1 ∧ (s6.emit ⟨15, 1, 0, eS⟩).pats.length = s6.pats.length := ⟨emit_len _ _, rfl⟩
  obtain ⟨s7, h7⟩ : ∃ q, q = s6.emit ⟨15, 1, 0, eS⟩ := ⟨_, rfl⟩
  rw [← h7] at c7 q7
  have c8 := c_here s7 env s3.ins.length (by omega) (by omega)
  have q8 : (s7.here s3.ins.length).ins.length = s7.ins.length ∧ (s7.here s3.ins.length).pats.length = s7.pats.length := ⟨here_len _ _, rfl⟩
  obtain ⟨s8, h8⟩ : ∃ q, q = s7.here s3.ins.length := ⟨_, rfl⟩
  rw [← h8] at c8 q8
  have hf : tryC (cmp true x) (cmp true y) a.s env s0 = s8 := by rw [h8, h7, h6, h5, h4, h3, h2, h1]; rfl
  rw [hf]
  clear hf h1 h2 h3 h4 h5 h6 h7 h8
  obtain ⟨gx, rx⟩ := x
  obtain ⟨gy, ry⟩ := y
  simp only [exE_mk, List.map_cons, List.map_nil, exS_mk] at hce ⊢
  simp only [exE_mk, List.map_cons, List.map_nil, stE_eq] at c2
  simp only [exE_mk, List.map_cons, List.map_nil, stE_eq] at c6
  rw [k] at hce
  simp only [cmpD_eq s0 env, hl] at c1
  refine FCon.intro PM _ Tryz.func48 (by kernel_rfl) rfl _ Tryz.ntmps48 rfl [(14, 12, [], [], (lin [] [0, 1, 2, 3, 4, 5, 6, 7, 8, 9, 10, 11])), (16, 26, [], [], (lin [] [0, 1, 2, 3, 4, 5, 6, 7, 8, 9, 10, 11, 12, 13, 14, 15, 16, 17, 18, 19, 20, 21, 22, 23, 24, 25])), (17, 12, [], [], (lin [] [0, 1, 2, 3, 4, 5, 6, 7, 8, 9, 10, 11])), (26, 12, [], [], (lin [] [0, 1, 2, 3, 4, 5, 6, 7, 8, 9, 10, 11])), (42, 12, [], [], (lin [] [0, 1, 2, 3, 4, 5, 6, 7, 8, 9, 10, 11]))] (by decide +kernel) (by simp) (by simp) rfl (by first | rfl | simp only [go_sem]) ?_
  (have hWf := WFx.mk (ai @cmpD_eq <| ai @hl <| ai @hee <| ai @k <| @stE_eq); repeat' (first | refine zS ?_ | exact zE | with_reducible apply And.intro | refine zK (hce) ?_ | refine zH c1 ?_ | refine zH c2 ?_ | refine zH c3 ?_ | refine zH c4 ?_ | refine zH c5 ?_ | refine zH c6 ?_ | refine zH c7 ?_ | refine zH c8 ?_ | with_reducible exact zB0 | with_reducible refine zB fun hb => ?_ | exact zC | refine zT ?_ | fail))
  all_goals first | rfl | skip
end Go.Proofs.YtahdaknaoogpkaaGreat
