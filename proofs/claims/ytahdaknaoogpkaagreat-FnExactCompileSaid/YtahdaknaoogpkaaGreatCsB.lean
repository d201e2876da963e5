import Derived.Test.YtahdaknaoogpkaaGreatExB
import Derived.Test.YtahdaknaoogpkaaGreatNmB
import Derived.Test.YtahdaknaoogpkaaGreatCdB
/- The compiler of the reference, over the second engine: what it lays down. -/
set_option maxRecDepth 100000
set_option maxHeartbeats 4000000
namespace Go.Proofs.YtahdaknaoogpkaaGreat
set_option linter.unusedVariables false
set_option linter.unusedSimpArgs false
attribute [local go_sem] List.map_append
open Go.RowKit Arb
def spD (T : List MType) (nodes : List MNode) (s : CS) : List D := [.sl 3 (T.map MType.enc), .sl 6 (nodes.map MNode.enc), .osl 53 4 (s.ins.map MIns.enc), .osl 114 1 (s.pats.map MPat.enc), .s (.bool s.lost)]
theorem spD_eq (T : List MType) (nodes : List MNode) (s : CS) : spD T nodes s = [.sl 3 (T.map MType.enc), .sl 6 (nodes.map MNode.enc), .osl 53 4 (s.ins.map MIns.enc), .osl 114 1 (s.pats.map MPat.enc), .s (.bool s.lost)] := rfl
theorem MPat.frzE_eq (x : MPat) : frzL x.enc = x.enc := by simp only [MPat.enc_eq, frzL, frz]
theorem MPat.frzE (xs : List MPat) : frzLL (xs.map MPat.enc) = xs.map MPat.enc := frz_rows MPat.frzE_eq xs
attribute [go_sem] MPat.frzE
theorem c_l10Put (T : List MType) (nodes : List MNode) (s : CS) (op a b : Int) (x : ByteArray) (hl : s.ins.length ≤ 1000000) : FCon Tryz.prog 47 [.opt (spD T nodes s), .s (.int .i64 op), .s (.int .i64 a), .s (.int .i64 b), .s (.string x)] (fun r o => r = .s (.int .i64 s.ins.length) ∧ o = [.opt (spD T nodes (s.emit ⟨op, a, b, x⟩)), .un, .un, .un, .un]) := by
  refine FCon.intro PM _ Tryz.func47 (by kernel_rfl) rfl _ Tryz.ntmps47 rfl [] (by decide +kernel) (by simp) (by simp) rfl (by first | rfl | simp only [go_sem]) ?_
  (have hWf := WFx.mk (ai @spD_eq <| ai @MIns.enc_eq <| ai @emit_ins <| ai @emit_pats <| @emit_lost); repeat' (first | refine zS ?_ | exact zE | with_reducible apply And.intro | with_reducible exact zB0 | with_reducible refine zB fun hb => ?_ | exact zC | refine zT ?_ | fail))
  exact sI_congr (by push_cast; omega)
theorem c_l10Here (T : List MType) (nodes : List MNode) (s : CS) : FCon Tryz.prog 123 [.pt [.sl 3 (T.map MType.enc), .sl 6 (nodes.map MNode.enc), .sl 4 (s.ins.map MIns.enc), .sl 1 (s.pats.map MPat.enc), .s (.bool s.lost)]] (fun r _ => r = .s (.int .i64 s.ins.length)) := by
  refine FCon.intro PM _ Tryz.func123 (by kernel_rfl) rfl _ Tryz.ntmps123 rfl [] (by decide +kernel) (by simp) (by simp) rfl (by first | rfl | simp only [go_sem]) ?_
  (have hWf := f0; repeat' (first | refine zS ?_ | exact zE | with_reducible apply And.intro | with_reducible exact zB0 | with_reducible refine zB fun hb => ?_ | exact zC | refine zT ?_ | fail))
theorem c_l10Under (env : List ByteArray) (x : ByteArray) (hl : env.length ≤ 10000000) : FCon Tryz.prog 122 [.sl 1 (env.map stE), .s (.string x)] (fun r _ => r = .sl 1 ((env ++ [x]).map stE)) := by
  refine FCon.ice ?_
  have hc : FCon Tryz.prog 122 [.sl 1 (env.map stE), .s (.string x)] (fun r _ => r = .osl 9 1 ((env ++ [x]).map stE)) := by
    refine FCon.intro PM _ Tryz.func122 (by kernel_rfl) rfl _ Tryz.ntmps122 rfl [] (by decide +kernel) (by simp) (by simp) rfl (by first | rfl | simp only [go_sem]) ?_
    (have hWf := WFx.mk @stE_eq; repeat' (first | refine zS ?_ | exact zE | with_reducible apply And.intro | with_reducible exact zB0 | with_reducible refine zB fun hb => ?_ | exact zC | refine zT ?_ | fail))
  exact hc.mono fun r _ e => by subst e; simp only [frA, frz, stE_frz]
theorem c_l10Copy (xs : List DPNode) (hl : xs.length ≤ 1000000) (hk : ∀ x ∈ xs, x.kids.length ≤ 1000000) : FCon Tryz.prog 205 [.ag [.sl 4 (xs.map DPNode.enc)]] (fun r _ => r = .ag [.sl 4 (xs.map DPNode.enc)]) := by
  refine FCon.ice ?_
  have hc : FCon Tryz.prog 205 [.ag [.sl 4 (xs.map DPNode.enc)]] (fun r _ => r = .ag [.osl 187 4 (xs.map DPNode.own)]) := by
    refine FCon.intro PM _ Tryz.func205 (by kernel_rfl) rfl _ Tryz.ntmps205 rfl [] (by decide +kernel) (by simp) (by simp) rfl (by first | rfl | simp only [go_sem]) ?_
    (have hWf := f0; repeat' (first | refine zS ?_ | exact zE | with_reducible apply And.intro | with_reducible exact zB0 | with_reducible refine zB fun hb => ?_ | exact zC | refine zT ?_ | fail))
    refine ACL_ac (AC_nil 3 0 777 (row := [.nil]) 187 4 (by simp only [go_sem, simprocAttr]) rfl (by decide) rfl (AC_go ?_))
    simp only [go_sem, simprocAttr]
    refine AC_loop (fun n σ => ∃ k : Nat, k ≤ xs.length ∧ n = xs.length - k ∧ σ.t 2 = .bx 2 0 ∧ σ.b 2 = some (.box [.nil]) ∧ σ.t 3 = .bx 3 0 ∧ σ.b 3 = some (.box [.bs 777 4 k]) ∧ σ.b 777 = some (.arr 187 4 ((xs.take k).map DPNode.own)) ∧ σ.t 8 = .sl 4 (xs.map DPNode.enc) ∧ σ.t 9 = .s (.int .i64 xs.length) ∧ σ.t 10 = .s (.int .i64 k)) xs.length ⟨0, by omega, by omega, ?_⟩ ?_
    · simp only [go_sem, simprocAttr, Int.natCast_zero, List.take_zero]
    · rintro n σ ⟨k, hk2, rfl, h2, b2, h3, b3, b7, h8, h9, h10⟩ K' hK
      by_cases hlt : k < xs.length
      · have hx := getD_map DPNode.enc xs k hlt
        have he := DPNode.enc_eq xs[k]
        have ho := DPNode.own_eq xs[k]
        have htl : (xs.take k).length = k := by rw [List.length_take]; omega
        have hts := List.take_succ_eq_append_getElem hlt
        have hkk := hk _ (List.getElem_mem hlt)
        (have hWf := WFx.mk (ai @h2 <| ai @b2 <| ai @h3 <| ai @b3 <| ai @b7 <| ai @h8 <| ai @h9 <| ai @h10 <| ai @hx <| ai @he <| @htl); repeat' (first | refine zS ?_ | exact zE | with_reducible apply And.intro | with_reducible exact zB0 | with_reducible refine zB fun hb => ?_ | exact zC | refine zT ?_ | fail))
        refine hK (xs.length - (k + 1)) _ (by omega) ⟨k + 1, by omega, rfl, ?_⟩
        simp only [go_sem, simprocAttr, h2, b2, h3, b3, b7, h8, h9, h10, Int.natCast_succ, hts, List.map_append, ho]
      · obtain rfl : k = xs.length := by omega
        rw [List.take_length] at b7
        (have hWf := WFx.mk (ai @h2 <| ai @b2 <| ai @h3 <| ai @b3 <| ai @b7 <| ai @h8 <| ai @h9 <| @h10); repeat' (first | refine zS ?_ | exact zE | with_reducible apply And.intro | with_reducible exact zB0 | with_reducible refine zB fun hb => ?_ | exact zC | refine zT ?_ | fail))
  exact hc.mono fun r _ e => by subst e; simp only [frA, frzL, List.map_cons, List.map_nil, frz, DPNode.frzS]
theorem take_rev' {α : Type} {l : List α} {q : Nat} (h : q < l.length) : (l.take (q + 1)).reverse = l[q] :: (l.take q).reverse := by
  rw [List.take_succ_eq_append_getElem h, List.reverse_append]; rfl
theorem nameC_some' {x : ByteArray} {env : List ByteArray} {a : Nat} (s : CS) (h : varA env x = some a) : nameC x env s = s.emit ⟨6, a, 0, eS⟩ := by unfold nameC; rw [h]
theorem nameC_none' {x : ByteArray} {env : List ByteArray} (s : CS) (h : varA env x = none) : nameC x env s = ⟨s.ins ++ [⟨7, 0, 0, x⟩], s.pats, s.lost || !givenM x⟩ := by unfold nameC; rw [h]
theorem c_l10Var (T : List MType) (nodes : List MNode) (s : CS) (env : List ByteArray) (x : ByteArray) (hl : s.ins.length ≤ 1000000) (hle : env.length ≤ 1000000) : FCon Tryz.prog 120 [.opt (spD T nodes s), .s (.string x), .sl 1 (env.map stE)] (fun r o => r = .tup [] ∧ o = [.opt (spD T nodes (nameC x env s)), .un, .un]) := by
  have hc7 : ∀ b, FCon Tryz.prog 47 [.opt [.sl 3 (T.map MType.enc), .sl 6 (nodes.map MNode.enc), .osl 53 4 (s.ins.map MIns.enc), .osl 114 1 (s.pats.map MPat.enc), .s (.bool b)], .s (.int .i64 7), .s (.int .i64 0), .s (.int .i64 0), .s (.string x)] (fun r o => r = .s (.int .i64 s.ins.length) ∧ o = [.opt [.sl 3 (T.map MType.enc), .sl 6 (nodes.map MNode.enc), .osl 53 4 ((s.ins ++ [MIns.mk 7 0 0 x]).map MIns.enc), .osl 114 1 (s.pats.map MPat.enc), .s (.bool b)], .un, .un, .un, .un]) := fun b => c_l10Put T nodes ⟨s.ins, s.pats, b⟩ 7 0 0 x hl
  refine FCon.intro PM _ Tryz.func120 (by kernel_rfl) rfl _ Tryz.ntmps120 rfl [] (by decide +kernel) (by simp) (by simp) rfl (by first | rfl | simp only [go_sem]) ?_
  (have hWf := WFx.mk @spD_eq; repeat' (first | refine zS ?_ | exact zE | with_reducible apply And.intro | with_reducible exact zB0 | with_reducible refine zB fun hb => ?_ | exact zC | refine zT ?_ | fail))
  refine AC_loop (fun n σ => n ≤ env.length ∧ idxR x env.reverse 0 = idxR x (env.take n).reverse (env.length - n) ∧ σ.t 0 = .bx 900000 0 ∧ σ.t 1 = .s (.string x) ∧ σ.t 2 = .sl 1 (env.map stE) ∧ σ.t 6 = .s (.int .i64 ((n : Int) - 1)) ∧
    σ.b 900000 = some (.box [.sl 3 (T.map MType.enc), .sl 6 (nodes.map MNode.enc), .bs 3900000 4 s.ins.length, .bs 4900000 1 s.pats.length, .s (.bool s.lost)]) ∧ σ.b 3900000 = some (.arr 53 4 (s.ins.map MIns.enc)) ∧ σ.b 4900000 = some (.arr 114 1 (s.pats.map MPat.enc))) env.length ⟨Nat.le_refl _, ?_, ?_⟩ ?_
  · rw [List.take_length, Nat.sub_self]
  · simp only [go_sem, simprocAttr]
  · rintro n σ ⟨hn, hix, h0, h1, h2, h6, b0, b1, b2⟩ K' hK
    cases n with
    | zero =>
      have hno : varA env x = none := by unfold varA; rw [hix]; rfl
      have h6 : σ.t 6 = .s (.int .i64 (-1)) := h6
      rw [nameC_none' s hno]
      cases hg : givenM x with
      | true =>
        unfold givenM at hg
        have hcc := hc7 s.lost
        simp only [Bool.or_eq_true, beq_iff_eq] at hg
        simp only [Bool.not_true, Bool.or_false]
        rcases hg with ((h | h) | h) | h
        all_goals
          have e1 : (x.toList == [112, 114, 105, 110, 116]) = (x.toList == [112, 114, 105, 110, 116]) := rfl
          conv at e1 => rhs; rw [h]; simp
          have e2 : (x.toList == [115, 97, 121]) = (x.toList == [115, 97, 121]) := rfl
          conv at e2 => rhs; rw [h]; simp
          have e3 : (x.toList == [114, 101, 97, 100]) = (x.toList == [114, 101, 97, 100]) := rfl
          conv at e3 => rhs; rw [h]; simp
          have e4 : (x.toList == [115, 105, 122, 101]) = (x.toList == [115, 105, 122, 101]) := rfl
          conv at e4 => rhs; rw [h]; simp
          (have hWf := WFx.mk (ai @h0 <| ai @h1 <| ai @h2 <| ai @h6 <| ai @b0 <| ai @b1 <| ai @b2 <| ai @litPrint <| ai @litSay <| ai @litRead <| ai @litSize <| ai @e1 <| ai @e2 <| ai @e3 <| @e4); repeat' (first | refine zS ?_ | exact zE | with_reducible apply And.intro | refine zH hcc ?_ | with_reducible exact zB0 | with_reducible refine zB fun hb => ?_ | exact zC | refine zT ?_ | fail))
          all_goals first | rfl | skip
      | false =>
        unfold givenM at hg
        have hcc := hc7 true
        simp only [Bool.or_eq_false_iff] at hg
        simp only [Bool.not_false, Bool.or_true]
        obtain ⟨⟨⟨e1, e2⟩, e3⟩, e4⟩ := hg
        (have hWf := WFx.mk (ai @h0 <| ai @h1 <| ai @h2 <| ai @h6 <| ai @b0 <| ai @b1 <| ai @b2 <| ai @litPrint <| ai @litSay <| ai @litRead <| ai @litSize <| ai @e1 <| ai @e2 <| ai @e3 <| @e4); repeat' (first | refine zS ?_ | exact zE | with_reducible apply And.intro | refine zH hcc ?_ | with_reducible exact zB0 | with_reducible refine zB fun hb => ?_ | exact zC | refine zT ?_ | fail))
        all_goals first | rfl | skip
    | succ q =>
      have hq : q < env.length := by omega
      have h6 : σ.t 6 = .s (.int .i64 q) := by rw [h6]; exact sI_congr (by push_cast; omega)
      have hx := getD_map stE env q hq
      have he := stE_eq env[q]
      rw [take_rev' hq] at hix
      have hc := c_l10Put T nodes s 6 ((env.length : Int) - 1 - q) 0 eS hl
      rw [spD_eq, spD_eq] at hc
      by_cases hp : env[q] = x
      · have hp' := str_beq_true hp
        have hv : varA env x = some (env.length - (q + 1)) := by unfold varA; rw [hix, idxR, if_pos hp]
        rw [nameC_some' s hv]
        (have hWf := WFx.mk (ai @h0 <| ai @h1 <| ai @h2 <| ai @h6 <| ai @b0 <| ai @b1 <| ai @b2 <| ai @hx <| ai @he <| @hp'); repeat' (first | refine zS ?_ | exact zE | with_reducible apply And.intro | refine zH hc ?_ | with_reducible exact zB0 | with_reducible refine zB fun hb => ?_ | exact zC | refine zT ?_ | fail))
        have e : (env.length : Int) - 1 - q = ((env.length - (q + 1) : Nat) : Int) := by omega
        rw [e]
      · have hp' := str_beq_false hp
        (have hWf := WFx.mk (ai @h0 <| ai @h1 <| ai @h2 <| ai @h6 <| ai @b0 <| ai @b1 <| ai @b2 <| ai @hx <| ai @he <| @hp'); repeat' (first | refine zS ?_ | exact zE | with_reducible apply And.intro | with_reducible exact zB0 | with_reducible refine zB fun hb => ?_ | exact zC | refine zT ?_ | fail))
        refine hK q _ (by omega) ⟨by omega, ?_, ?_⟩
        · rw [hix, idxR, if_neg hp]
          congr 1; omega
        · simp only [go_sem, simprocAttr, h0, h1, h2, h6, b0, b1, b2]
end Go.Proofs.YtahdaknaoogpkaaGreat

namespace Go.Proofs.YtahdaknaoogpkaaGreat
set_option linter.unusedVariables false
set_option linter.unusedSimpArgs false
open Go.RowKit Arb
abbrev BdS (t : ET) (env : List ByteArray) (s : CS) : Prop := s.ins.length + 4 * t.size ≤ 100000 ∧ s.pats.length + 2 * t.size ≤ 100000 ∧ env.length + 601 * t.size ≤ 1000000
def SE (T : List MType) (nodes : List MNode) (t : ET) : Prop := ∀ (m : Nat) (env : List ByteArray) (s : CS), At EI.node nodes m t → BdS t env s → FCon Tryz.prog 46 [.opt (spD T nodes s), .s (.int .i64 m), .sl 1 (env.map stE)] (fun r o => r = .tup [] ∧ o = [.opt (spD T nodes (cmp false t env s)), .un, .un])
theorem setA_at' {l : List MIns} {k : Nat} (h : k < l.length) (v : Int) : setA l k v = l.set k ⟨l[k].op, v, l[k].b, l[k].s⟩ := by unfold setA; rw [List.getElem?_eq_getElem h]
theorem setB_at' {l : List MIns} {k : Nat} (h : k < l.length) (v : Int) : setB l k v = l.set k ⟨l[k].op, l[k].a, v, l[k].s⟩ := by unfold setB; rw [List.getElem?_eq_getElem h]
theorem here_set {s : CS} {k : Nat} (hk : k < s.ins.length) : (s.ins.map MIns.enc).set k [.s (.int .i64 s.ins[k].op), .s (.int .i64 s.ins.length), .s (.int .i64 s.ins[k].b), .s (.string s.ins[k].s)] = (s.here k).ins.map MIns.enc := by
  show _ = (setA s.ins k s.ins.length).map MIns.enc
  rw [setA_at' hk, List.map_set]; rfl
theorem node_enc (a : EI) (l : List Int) : (a.node l).enc = [.s (.int .i64 a.kind), .s (.int .i64 a.at_), .s (.int .i64 a.n), .s (.string a.s), .sl 1 (l.map iE), .sl 1 (a.pats.map MPat.enc)] := rfl
theorem node_at {nodes : List MNode} {m : Nat} {a : EI} {l : List ET} (h : At EI.node nodes m (.mk a l)) : (nodes.map MNode.enc).getD m [] = (a.node (idxs (m + 1) l)).enc := by
  obtain ⟨hm, hr⟩ := List.getElem?_eq_some_iff.1 h.root
  rw [getD_map MNode.enc nodes m hm, hr]
theorem at_len {nodes : List MNode} {m : Nat} {t : ET} (h : At EI.node nodes m t) : decide ((m : Int) < (nodes.length : Int)) = true := by
  have := h.lt; exact decide_eq_true (by omega)
theorem c_l10Body (T : List MType) (nodes : List MNode) (b : EI) (x : ET) (m : Nat) (hA : At EI.node nodes m (.mk b [x])) (hE : SE T nodes x) (ox : okT x) (op : Int) (env : List ByteArray) (s0 : CS) (hb : s0.ins.length + 4 * x.size + 3 ≤ 100000 ∧ s0.pats.length + 2 * x.size ≤ 100000 ∧ env.length + 1 + 601 * x.size ≤ 1000000) :
    FCon Tryz.prog 121 [.opt (spD T nodes s0), .s (.int .i64 op), .s (.int .i64 m), .sl 1 (env.map stE)] (fun r o => r = .tup [] ∧ o = [.opt (spD T nodes (funC op (cmp false x) [b.s] env s0)), .un, .un, .un]) := by
  have hx := node_at hA
  have he := node_enc b (idxs (m + 1) [x])
  have hlt := hA.lt
  have hg := cmp_gr false x ox
  have hid : (idxs (m + 1) [x]).map iE = [[.s (.int .i64 ((m + 1 : Nat) : Int))]] := rfl
  rw [hid] at he
  have c0 := c_l10Here T nodes s0
  have c1 := c_l10Put T nodes s0 op ((s0.ins.length : Int) + 2) 0 eS (by omega)
  obtain ⟨s1, h1⟩ : ∃ q, q = s0.emit ⟨op, (s0.ins.length : Int) + 2, 0, eS⟩ := ⟨_, rfl⟩
  have q1 : s1.ins.length = s0.ins.length + 1 ∧ s1.pats.length = s0.pats.length := by rw [h1]; exact ⟨emit_len _ _, rfl⟩
  rw [← h1] at c1
  have c2 := c_l10Put T nodes s1 12 0 0 eS (by omega)
  obtain ⟨s2, h2⟩ : ∃ q, q = s1.emit ⟨12, 0, 0, eS⟩ := ⟨_, rfl⟩
  have q2 : s2.ins.length = s1.ins.length + 1 ∧ s2.pats.length = s1.pats.length := by rw [h2]; exact ⟨emit_len _ _, rfl⟩
  rw [← h2] at c2
  have cu := c_l10Under env b.s (by omega)
  have c3 := hE (m + 1) (env ++ [b.s]) s2 hA.kids.head ⟨by omega, by omega, by rw [List.length_append]; simp only [List.length_cons, List.length_nil]; omega⟩
  have q3 := And.intro (hg.lo (env ++ [b.s]) s2) (hg.hi (env ++ [b.s]) s2)
  obtain ⟨s3, h3⟩ : ∃ q, q = cmp false x (env ++ [b.s]) s2 := ⟨_, rfl⟩
  rw [← h3] at c3 q3
  have c4 := c_l10Put T nodes s3 11 0 0 eS (by omega)
  obtain ⟨s4, h4⟩ : ∃ q, q = s3.emit ⟨11, 0, 0, eS⟩ := ⟨_, rfl⟩
  have q4 : s4.ins.length = s3.ins.length + 1 := by rw [h4]; exact emit_len _ _
  rw [← h4] at c4
  have c5 := c_l10Here T nodes s4
  have hil : s1.ins.length < s4.ins.length := by omega
  have hx5 := getD_map MIns.enc s4.ins s1.ins.length hil
  have he5 := MIns.enc_eq s4.ins[s1.ins.length]
  have hs5 := here_set hil
  have hl5 := here_len s4 s1.ins.length
  have hf : funC op (cmp false x) [b.s] env s0 = s4.here s1.ins.length := by
    rw [h4, h3, h2, q1.1, h1]; rfl
  rw [hf]
  clear hf h1 h2 h3 h4
  refine FCon.intro PM _ Tryz.func121 (by kernel_rfl) rfl _ Tryz.ntmps121 rfl [(3, 9, [], [], (lin [] [0, 1, 2, 3, 4, 5, 6, 7, 8])), (5, 8, [], [], (lin [] [0, 1, 2, 3, 4, 5, 6, 7]))] (by decide +kernel) (by simp) (by simp) rfl (by first | rfl | simp only [go_sem]) ?_
  (have hWf := WFx.mk (ai @spD_eq <| ai @hx <| ai @he <| ai @hx5 <| ai @he5 <| ai @hs5 <| ai @hl5 <| ai @here_pats <| @here_lost); repeat' (first | refine zS ?_ | exact zE | with_reducible apply And.intro | refine zK (c0) ?_ | refine zH c1 ?_ | refine zH c2 ?_ | refine zK (cu) ?_ | refine zH c3 ?_ | refine zH c4 ?_ | refine zK (c5) ?_ | with_reducible exact zB0 | with_reducible refine zB fun hb => ?_ | exact zC | refine zT ?_ | fail))
def opK (k : Int) : Int := if k = 6 then 10 else if k = 10 then 16 else if k = 11 then 5 else if k = 18 then 24 else if k = 16 then 22 else if k = 17 then 23 else if k = 14 then 17 else 0
theorem c_l10Op (k : Int) (hk : 1 ≤ k ∧ k ≤ 19) : FCon Tryz.prog 119 [.s (.int .i64 k)] (fun r _ => r = .s (.int .i64 (opK k))) := by
  rcases (show k = 1 ∨ k = 2 ∨ k = 3 ∨ k = 4 ∨ k = 5 ∨ k = 6 ∨ k = 7 ∨ k = 8 ∨ k = 9 ∨ k = 10 ∨ k = 11 ∨ k = 12 ∨ k = 13 ∨ k = 14 ∨ k = 15 ∨ k = 16 ∨ k = 17 ∨ k = 18 ∨ k = 19 by omega) with rfl | rfl | rfl | rfl | rfl | rfl | rfl | rfl | rfl | rfl | rfl | rfl | rfl | rfl | rfl | rfl | rfl | rfl | rfl
  all_goals
    clear hk
    refine FCon.intro PM _ Tryz.func119 (by kernel_rfl) rfl _ Tryz.ntmps119 rfl [] (by decide +kernel) (by simp) (by simp) rfl (by first | rfl | simp only [go_sem]) ?_
    (have hWf := f0; repeat' (first | refine zS ?_ | exact zE | with_reducible apply And.intro | with_reducible exact zB0 | with_reducible refine zB fun hb => ?_ | exact zC | refine zT ?_ | fail))
    all_goals (try rfl)
theorem kidsC_s {l : List ET} {k : Nat} (h : k < l.length) (chk : Bool) (env : List ByteArray) (s : CS) : kidsC ((l.take (k + 1)).map (cmp chk)) env s = cmp chk l[k] env (kidsC ((l.take k).map (cmp chk)) env s) := by
  unfold kidsC
  rw [List.take_succ_eq_append_getElem h, List.map_append, List.foldl_append]; rfl
theorem sizeL_at {l : List ET} {k : Nat} (h : k < l.length) : sizeL (l.take k) + l[k].size ≤ sizeL l := by
  have := List.take_append_drop k l
  have e := congrArg sizeL this
  rw [sizeL_app, List.drop_eq_getElem_cons h, sizeL_cons] at e
  omega
theorem stop_no (s : CS) : stopB false s = false := rfl
theorem eS_of {s : ByteArray} (h : s.toList = []) : s = eS := by
  have : s.data.toList = [] := by rw [← ByteArray.toList_eq]; exact h
  apply ByteArray.ext
  apply Array.ext'
  exact this
theorem exprS_op (T : List MType) (nodes : List MNode) (a : EI) (l : List ET) (ok : okT (.mk a l)) (ih : ∀ t ∈ l, SE T nodes t) (m : Nat) (env : List ByteArray) (s : CS) (hA : At EI.node nodes m (.mk a l)) (hb : BdS (.mk a l) env s) (ho : 0 < opK a.kind) (hx0 : endI a l.length = ⟨opK a.kind, 0, 0, a.s⟩) :
    FCon Tryz.prog 46 [.opt (spD T nodes s), .s (.int .i64 m), .sl 1 (env.map stE)] (fun r o => r = .tup [] ∧ o = [.opt (spD T nodes (cmp false (.mk a l) env s)), .un, .un]) := by
  have he : endK a.kind = true := by
    unfold opK at ho
    unfold endK
    split at ho
    · simp [*]
    split at ho
    · simp [*]
    split at ho
    · simp [*]
    split at ho
    · simp [*]
    split at ho
    · simp [*]
    split at ho
    · simp [*]
    split at ho
    · simp [*]
    · omega
  rw [cmp_end (stop_no s) he, hx0]
  have hx := node_at hA
  have hee := node_enc a (idxs (m + 1) l)
  have hlt := hA.lt
  have hop := c_l10Op a.kind (kind_of ok.root)
  have hod : decide (opK a.kind > 0) = true := decide_eq_true ho
  have hgr := fun (k : Nat) (h : k ≤ l.length) => gr_kids false (l.take k) fun t ht => cmp_gr false t (ok.kid t (List.mem_of_mem_take ht))
  obtain ⟨b1, b2, b3⟩ := hb
  rw [size_mk] at b1 b2 b3
  have hsl := sizeL_len l
  have hil := idxs_len (m + 1) l
  refine FCon.intro PM _ Tryz.func46 (by kernel_rfl) rfl _ Tryz.ntmps46 rfl [(36, 9, [], [], (lin [] [0, 1, 2, 3, 4, 5, 6, 7, 8])), (43, 8, [], [], (lin [] [0, 1, 2, 3, 4, 5, 6, 7])), (45, 8, [], [], (lin [] [0, 1, 2, 3, 4, 5, 6, 7])), (51, 8, [], [], (lin [] [0, 1, 2, 3, 4, 5, 6, 7])), (52, 9, [], [], (lin [] [0, 1, 2, 3, 4, 5, 6, 7, 8])), (54, 8, [], [], (lin [] [0, 1, 2, 3, 4, 5, 6, 7]))] (by decide +kernel) (by simp) (by simp) rfl (by first | rfl | simp only [go_sem]) ?_
  (have hWf := WFx.mk (ai @spD_eq <| ai @hx <| ai @hee <| ai @hod <| @hil); repeat' (first | refine zS ?_ | exact zE | with_reducible apply And.intro | refine zK (hop) ?_ | with_reducible exact zB0 | with_reducible refine zB fun hb => ?_ | exact zC | refine zT ?_ | fail))
  refine AC_loop (fun n σ => ∃ k : Nat, k ≤ l.length ∧ n = l.length - k ∧ σ.t 0 = .bx 900000 0 ∧ σ.t 2 = .sl 1 (env.map stE) ∧ σ.t 6 = .bx 6 0 ∧ σ.t 7 = .s (.int .i64 (opK a.kind)) ∧ σ.t 29 = .sl 1 ((idxs (m + 1) l).map iE) ∧ σ.t 30 = .s (.int .i64 l.length) ∧ σ.t 31 = .s (.int .i64 k) ∧
    σ.b 6 = some (.box [.s (.int .i64 a.kind), .s (.int .i64 a.at_), .s (.int .i64 a.n), .s (.string a.s), .sl 1 ((idxs (m + 1) l).map iE), .sl 1 (a.pats.map MPat.enc)]) ∧
    σ.b 900000 = some (.box [.sl 3 (T.map MType.enc), .sl 6 (nodes.map MNode.enc), .bs 3900000 4 (kidsC ((l.take k).map (cmp false)) env s).ins.length, .bs 4900000 1 (kidsC ((l.take k).map (cmp false)) env s).pats.length, .s (.bool (kidsC ((l.take k).map (cmp false)) env s).lost)]) ∧
    σ.b 3900000 = some (.arr 53 4 ((kidsC ((l.take k).map (cmp false)) env s).ins.map MIns.enc)) ∧ σ.b 4900000 = some (.arr 114 1 ((kidsC ((l.take k).map (cmp false)) env s).pats.map MPat.enc))) l.length ⟨0, by omega, by omega, ?_⟩ ?_
  · simp only [go_sem, simprocAttr, Int.natCast_zero, List.take_zero, List.map_nil, kidsC, List.foldl_nil]
  · rintro n σ ⟨k, hk, rfl, h0, h2, h6, h7, h29, h30, h31, c6, c0, c1, c2⟩ K' hK
    by_cases hlt : k < l.length
    · have hlt2 : k < (idxs (m + 1) l).length := by rw [hil]; exact hlt
      have hx2 := getD_map iE (idxs (m + 1) l) k hlt2
      have he2 : iE (idxs (m + 1) l)[k] = [.s (.int .i64 ((m + 1 + sizeL (l.take k) : Nat) : Int))] := by rw [idxs_at (m + 1) l k hlt]; rfl
      have hst := kidsC_s hlt false env s
      have g := hgr k hk
      have g1 := g.hi env s
      have g2 := g.phi env s
      have hsp := sizeL_at hlt
      have hc := ih l[k] (List.getElem_mem hlt) _ env (kidsC ((l.take k).map (cmp false)) env s) (hA.kids.at k hlt) ⟨by omega, by omega, by omega⟩
      rw [← hst] at hc
      (have hWf := WFx.mk (ai @spD_eq <| ai @h0 <| ai @h2 <| ai @h6 <| ai @h7 <| ai @h29 <| ai @h30 <| ai @h31 <| ai @c6 <| ai @c0 <| ai @c1 <| ai @c2 <| ai @hx2 <| ai @he2 <| @hil); repeat' (first | refine zS ?_ | exact zE | with_reducible apply And.intro | refine zH hc ?_ | with_reducible exact zB0 | with_reducible refine zB fun hb => ?_ | exact zC | refine zT ?_ | fail))
      refine hK (l.length - (k + 1)) _ (by omega) ⟨k + 1, by omega, rfl, ?_⟩
      simp only [go_sem, simprocAttr, h0, h2, h6, h7, h29, h30, h31, c6, c0, c1, c2, Int.natCast_succ, spD_eq]
    · obtain rfl : k = l.length := by omega
      have g := (hgr l.length hk).hi env s
      rw [List.take_length] at c0 c1 c2 g
      have hc := c_l10Put T nodes (kidsC (l.map (cmp false)) env s) (opK a.kind) 0 0 a.s (by omega)
      (have hWf := WFx.mk (ai @spD_eq <| ai @h0 <| ai @h2 <| ai @h6 <| ai @h7 <| ai @h29 <| ai @h30 <| ai @h31 <| ai @c6 <| ai @c0 <| ai @c1 <| ai @c2 <| @hil); repeat' (first | refine zS ?_ | exact zE | with_reducible apply And.intro | refine zH hc ?_ | with_reducible exact zB0 | with_reducible refine zB fun hb => ?_ | exact zC | refine zT ?_ | fail))
      all_goals first | rfl | skip
end Go.Proofs.YtahdaknaoogpkaaGreat
