import Derived.Test.YtgcdbmcoendcdaaGreatHFoldT
/- Folding in the reference, over the second engine: free names. -/
set_option maxRecDepth 100000
set_option maxHeartbeats 8000000
namespace Go.Proofs.YtgcdbmcoendcdaaGreat
set_option linter.unusedVariables false
set_option linter.unusedSimpArgs false
open Go.RowKit Arb
theorem c_l09Plain (a : MNode) (l : List NT) : FCon Tryz.prog 73 [.ag (subE (.mk a l))] (fun r _ => r = .s (.bool (plainM a.inf l.length))) := by
  rw [subE_mk]
  have e : plainM a.inf l.length = (decide (a.kind = 1 ∨ a.kind = 2 ∨ a.kind = 12 ∨ a.kind = 5) || (decide (a.kind = 4) && decide (l.length = 0))) := rfl
  rw [e]; clear e
  by_cases k1 : a.kind = 1
  · refine FCon.intro PM _ Tryz.func73 (by kernel_rfl) rfl _ Tryz.ntmps73 rfl [] (by decide +kernel) (by simp) (by simp) rfl (by first | rfl | simp only [go_sem]) ?_
    (have hWf := WFx.mk @k1; repeat' (first | refine zS ?_ | exact zE | with_reducible apply And.intro | with_reducible exact zB0 | with_reducible refine zB fun hb => ?_ | exact zC | refine zT ?_ | fail))
  · by_cases k2 : a.kind = 2
    · refine FCon.intro PM _ Tryz.func73 (by kernel_rfl) rfl _ Tryz.ntmps73 rfl [] (by decide +kernel) (by simp) (by simp) rfl (by first | rfl | simp only [go_sem]) ?_
      (have hWf := WFx.mk @k2; repeat' (first | refine zS ?_ | exact zE | with_reducible apply And.intro | with_reducible exact zB0 | with_reducible refine zB fun hb => ?_ | exact zC | refine zT ?_ | fail))
    · by_cases k12 : a.kind = 12
      · refine FCon.intro PM _ Tryz.func73 (by kernel_rfl) rfl _ Tryz.ntmps73 rfl [] (by decide +kernel) (by simp) (by simp) rfl (by first | rfl | simp only [go_sem]) ?_
        (have hWf := WFx.mk @k12; repeat' (first | refine zS ?_ | exact zE | with_reducible apply And.intro | with_reducible exact zB0 | with_reducible refine zB fun hb => ?_ | exact zC | refine zT ?_ | fail))
      · by_cases k5 : a.kind = 5
        · refine FCon.intro PM _ Tryz.func73 (by kernel_rfl) rfl _ Tryz.ntmps73 rfl [] (by decide +kernel) (by simp) (by simp) rfl (by first | rfl | simp only [go_sem]) ?_
          (have hWf := WFx.mk @k5; repeat' (first | refine zS ?_ | exact zE | with_reducible apply And.intro | with_reducible exact zB0 | with_reducible refine zB fun hb => ?_ | exact zC | refine zT ?_ | fail))
        · have f1 := kindF k1
          have f2 := kindF k2
          have f12 := kindF k12
          have f5 := kindF k5
          by_cases k4 : a.kind = 4
          · cases l with
            | nil =>
              refine FCon.intro PM _ Tryz.func73 (by kernel_rfl) rfl _ Tryz.ntmps73 rfl [] (by decide +kernel) (by simp) (by simp) rfl (by first | rfl | simp only [go_sem]) ?_
              (have hWf := WFx.mk @k4; repeat' (first | refine zS ?_ | exact zE | with_reducible apply And.intro | with_reducible exact zB0 | with_reducible refine zB fun hb => ?_ | exact zC | refine zT ?_ | fail))
            | cons x r =>
              have hz : (((r.length + 1 : Nat) : Int) == 0) = false := by simp; omega
              refine FCon.intro PM _ Tryz.func73 (by kernel_rfl) rfl _ Tryz.ntmps73 rfl [] (by decide +kernel) (by simp) (by simp) rfl (by first | rfl | simp only [go_sem]) ?_
              (have hWf := WFx.mk (ai @k4 <| @hz); repeat' (first | refine zS ?_ | exact zE | with_reducible apply And.intro | with_reducible exact zB0 | with_reducible refine zB fun hb => ?_ | exact zC | refine zT ?_ | fail))
          · have f4 := kindF k4
            refine FCon.intro PM _ Tryz.func73 (by kernel_rfl) rfl _ Tryz.ntmps73 rfl [] (by decide +kernel) (by simp) (by simp) rfl (by first | rfl | simp only [go_sem]) ?_
            (have hWf := WFx.mk (ai @f1 <| ai @f2 <| ai @f12 <| ai @f5 <| @f4); repeat' (first | refine zS ?_ | exact zE | with_reducible apply And.intro | with_reducible exact zB0 | with_reducible refine zB fun hb => ?_ | exact zC | refine zT ?_ | fail))
            simp [k1, k2, k12, k5, k4]
def hasN (xs : List DPNode) (nm : ByteArray) : Bool := xs.any fun x => (x.kind == 2) && (x.s.toList == nm.toList)
theorem hasN_succ (xs : List DPNode) (nm : ByteArray) (k : Nat) (h : k < xs.length) : hasN (xs.take (k + 1)) nm = (hasN (xs.take k) nm || ((xs[k].kind == 2) && (xs[k].s.toList == nm.toList))) := by
  unfold hasN
  rw [List.take_succ_eq_append_getElem h, List.any_append]; simp
theorem hasN_mono (xs : List DPNode) (nm : ByteArray) (k : Nat) (h : hasN (xs.take k) nm = true) : hasN xs nm = true := by
  unfold hasN at h ⊢
  rw [List.any_eq_true] at h ⊢
  obtain ⟨x, h1, h2⟩ := h
  exact ⟨x, List.mem_of_mem_take h1, h2⟩
theorem c_l09Binds (xs : List DPNode) (hl : xs.length ≤ 1000000) (nm : ByteArray) : FCon Tryz.prog 156 [.ag [.sl 4 (xs.map DPNode.enc)], .s (.string nm)] (fun r _ => r = .s (.bool (hasN xs nm))) := by
  refine FCon.intro PM _ Tryz.func156 (by kernel_rfl) rfl _ Tryz.ntmps156 rfl [] (by decide +kernel) (by simp) (by simp) rfl (by first | rfl | simp only [go_sem]) ?_
  (have hWf := f0; repeat' (first | refine zS ?_ | exact zE | with_reducible apply And.intro | with_reducible exact zB0 | with_reducible refine zB fun hb => ?_ | exact zC | refine zT ?_ | fail))
  refine AC_loop (fun n σ => ∃ k : Nat, k ≤ xs.length ∧ n = xs.length - k ∧ hasN (xs.take k) nm = false ∧ σ.t 1 = .s (.string nm) ∧ σ.t 8 = .sl 4 (xs.map DPNode.enc) ∧ σ.t 9 = .s (.int .i64 xs.length) ∧ σ.t 10 = .s (.int .i64 k)) xs.length ⟨0, by omega, by omega, rfl, ?_⟩ ?_
  · simp only [go_sem, simprocAttr, Int.natCast_zero]
  · rintro n σ ⟨k, hk, rfl, hn, h1, h8, h9, h10⟩ K' hK
    by_cases hlt : k < xs.length
    · have hx := getD_map DPNode.enc xs k hlt
      have he := DPNode.enc_eq xs[k]
      have hs := hasN_succ xs nm k hlt
      rw [hn, Bool.false_or] at hs
      cases h2 : (xs[k].kind == 2) with
      | true =>
        rw [h2, Bool.true_and] at hs
        cases h3 : (xs[k].s.toList == nm.toList) with
        | true =>
          rw [h3] at hs
          rw [hasN_mono xs nm _ hs]
          (have hWf := WFx.mk (ai @h1 <| ai @h8 <| ai @h9 <| ai @h10 <| ai @hx <| ai @he <| ai @h2 <| @h3); repeat' (first | refine zS ?_ | exact zE | with_reducible apply And.intro | with_reducible exact zB0 | with_reducible refine zB fun hb => ?_ | exact zC | refine zT ?_ | fail))
        | false =>
          rw [h3] at hs
          (have hWf := WFx.mk (ai @h1 <| ai @h8 <| ai @h9 <| ai @h10 <| ai @hx <| ai @he <| ai @h2 <| @h3); repeat' (first | refine zS ?_ | exact zE | with_reducible apply And.intro | with_reducible exact zB0 | with_reducible refine zB fun hb => ?_ | exact zC | refine zT ?_ | fail))
          refine hK (xs.length - (k + 1)) _ (by omega) ⟨k + 1, by omega, rfl, hs, ?_⟩
          simp only [go_sem, simprocAttr, h1, h8, h9, h10, Int.natCast_succ]
      | false =>
        rw [h2, Bool.false_and] at hs
        (have hWf := WFx.mk (ai @h1 <| ai @h8 <| ai @h9 <| ai @h10 <| ai @hx <| ai @he <| @h2); repeat' (first | refine zS ?_ | exact zE | with_reducible apply And.intro | with_reducible exact zB0 | with_reducible refine zB fun hb => ?_ | exact zC | refine zT ?_ | fail))
        refine hK (xs.length - (k + 1)) _ (by omega) ⟨k + 1, by omega, rfl, hs, ?_⟩
        simp only [go_sem, simprocAttr, h1, h8, h9, h10, Int.natCast_succ]
    · obtain rfl : k = xs.length := by omega
      rw [List.take_length] at hn
      rw [hn]
      (have hWf := WFx.mk (ai @h1 <| ai @h8 <| ai @h9 <| @h10); repeat' (first | refine zS ?_ | exact zE | with_reducible apply And.intro | with_reducible exact zB0 | with_reducible refine zB fun hb => ?_ | exact zC | refine zT ?_ | fail))
theorem patHas_hasN (q : MPat) (nm : ByteArray) : patHas q nm = hasN q.nodes nm := rfl
def freeB (nm : ByteArray) (t : ET) : Bool := decide (0 < countM nm t)
theorem node_encF (a : EI) (l : List Int) : (a.node l).enc = [.s (.int .i64 a.kind), .s (.int .i64 a.at_), .s (.int .i64 a.n), .s (.string a.s), .sl 1 (l.map iE), .sl 1 (a.pats.map MPat.enc)] := rfl
theorem c_l09Free (nodes : List MNode) (hl : nodes.length ≤ 1000000) (nm : ByteArray) : ∀ (t : ET) (m : Nat), At EI.node nodes m t → All cntN t → FCon Tryz.prog 74 [.ag [.nil, .sl 6 (nodes.map MNode.enc)], .s (.int .i64 m), .s (.string nm)] (fun r _ => r = .s (.bool (freeB nm t))) := fun t => by
  induction t using Arb.ind with
  | h a l ih =>
    intro m hA hC
    obtain ⟨hm, hr⟩ := List.getElem?_eq_some_iff.1 hA.root
    have hx := getD_map MNode.enc nodes m hm
    have he := node_encF a (idxs (m + 1) l)
    rw [hr] at hx
    obtain ⟨hp, h13⟩ := hC.root
    have hil := idxs_len (m + 1) l
    have hll : l.length ≤ 1000000 := by
      have h1 := hA.bd
      have h2 := sizeL_len l
      rw [size_mk] at h1
      omega
    unfold freeB
    rw [countM_mk]
    by_cases k3 : a.kind = 3
    · rw [if_pos k3]
      cases hs : (a.s.toList == nm.toList) with
      | true =>
        refine FCon.intro PM _ Tryz.func74 (by kernel_rfl) rfl _ Tryz.ntmps74 rfl [] (by decide +kernel) (by simp) (by simp) rfl (by first | rfl | simp only [go_sem]) ?_
        (have hWf := WFx.mk (ai @hx <| ai @he <| ai @k3 <| @hs); repeat' (first | refine zS ?_ | exact zE | with_reducible apply And.intro | with_reducible exact zB0 | with_reducible refine zB fun hb => ?_ | exact zC | refine zT ?_ | fail))
        all_goals rfl
      | false =>
        refine FCon.intro PM _ Tryz.func74 (by kernel_rfl) rfl _ Tryz.ntmps74 rfl [] (by decide +kernel) (by simp) (by simp) rfl (by first | rfl | simp only [go_sem]) ?_
        (have hWf := WFx.mk (ai @hx <| ai @he <| ai @k3 <| @hs); repeat' (first | refine zS ?_ | exact zE | with_reducible apply And.intro | with_reducible exact zB0 | with_reducible refine zB fun hb => ?_ | exact zC | refine zT ?_ | fail))
        all_goals rfl
    · rw [if_neg k3]
      have f3 := kindF k3
      refine FCon.intro PM _ Tryz.func74 (by kernel_rfl) rfl _ Tryz.ntmps74 rfl [] (by decide +kernel) (by simp) (by simp) rfl (by first | rfl | simp only [go_sem]) ?_
      (have hWf := WFx.mk (ai @hx <| ai @he <| ai @f3 <| @hil); repeat' (first | refine zS ?_ | exact zE | with_reducible apply And.intro | with_reducible exact zB0 | with_reducible refine zB fun hb => ?_ | exact zC | refine zT ?_ | fail))
      refine AC_loop (fun n σ => ∃ k : Nat, k ≤ l.length ∧ n = l.length - k ∧ countL nm a 0 (l.take k) = 0 ∧ σ.t 2 = .s (.string nm) ∧ σ.t 3 = .bx 3 0 ∧ σ.b 3 = some (.box [.nil, .sl 6 (nodes.map MNode.enc)]) ∧ σ.t 7 = .bx 7 0 ∧ σ.b 7 = some (.box [.s (.int .i64 a.kind), .s (.int .i64 a.at_), .s (.int .i64 a.n), .s (.string a.s), .sl 1 ((idxs (m + 1) l).map iE), .sl 1 (a.pats.map MPat.enc)]) ∧ σ.t 24 = .sl 1 ((idxs (m + 1) l).map iE) ∧ σ.t 25 = .s (.int .i64 l.length) ∧ σ.t 26 = .s (.int .i64 k)) l.length ⟨0, by omega, by omega, by rw [List.take_zero, countL_nil], ?_⟩ ?_
      · simp only [go_sem, simprocAttr, Int.natCast_zero]
      · rintro n σ ⟨k, hk, rfl, hz, h2, h3, b3, h7, b7, h24, h25, h26⟩ K' hK
        by_cases hlt : k < l.length
        · have hlt2 : k < (idxs (m + 1) l).length := by rw [hil]; exact hlt
          have hx2 := getD_map iE (idxs (m + 1) l) k hlt2
          have he2 : iE (idxs (m + 1) l)[k] = [.s (.int .i64 ((m + 1 + sizeL (l.take k) : Nat) : Int))] := by rw [idxs_at (m + 1) l k hlt]; rfl
          have hg := ih l[k] (List.getElem_mem hlt) _ (hA.kids.at k hlt) (hC.kid _ (List.getElem_mem hlt))
          have hct := countL_take nm a l k hlt
          rw [hz, Nat.zero_add] at hct
          have hmo := countL_mono nm a l (k + 1)
          have fin : ∀ (b : Bool), bindsM a nm k = b → (b = true ∨ freeB nm l[k] = false) → countL nm a 0 (l.take (k + 1)) = 0 := fun b e q => by
            rw [hct, e]
            rcases q with rfl | q
            · rfl
            · have : ¬ 0 < countM nm l[k] := by simpa [freeB] using q
              split <;> omega
          have got : ∀ (b : Bool), bindsM a nm k = b → b = false → freeB nm l[k] = true → decide (0 < countL nm a 0 l) = true := fun b e h1 q => by
            rw [e, h1] at hct
            have : 0 < countM nm l[k] := by simpa [freeB] using q
            simp only [Bool.false_eq_true, if_false] at hct
            exact decide_eq_true (by omega)
          have hbe := bindsM_eq a nm k
          by_cases k1 : a.kind = 5 ∨ a.kind = 8
          · rw [if_pos k1] at hbe
            cases hs : (a.s.toList == nm.toList) with
            | true =>
              rw [hs] at hbe
              rcases k1 with q | q
              · have z : a.kind = 5 := q
                (have hWf := WFx.mk (ai @h2 <| ai @h3 <| ai @b3 <| ai @h7 <| ai @b7 <| ai @h24 <| ai @h25 <| ai @h26 <| ai @hx2 <| ai @he2 <| ai @hil <| ai @z <| @hs); repeat' (first | refine zS ?_ | exact zE | with_reducible apply And.intro | refine zK (hg) ?_ | with_reducible exact zB0 | with_reducible refine zB fun hb => ?_ | exact zC | refine zT ?_ | fail))
                refine hK (l.length - (k + 1)) _ (by omega) ⟨k + 1, by omega, rfl, fin _ hbe (.inl rfl), ?_⟩
                simp only [go_sem, simprocAttr, h2, h3, b3, h7, b7, h24, h25, h26, Int.natCast_succ]
              · have z : a.kind = 8 := q
                (have hWf := WFx.mk (ai @h2 <| ai @h3 <| ai @b3 <| ai @h7 <| ai @b7 <| ai @h24 <| ai @h25 <| ai @h26 <| ai @hx2 <| ai @he2 <| ai @hil <| ai @z <| @hs); repeat' (first | refine zS ?_ | exact zE | with_reducible apply And.intro | refine zK (hg) ?_ | with_reducible exact zB0 | with_reducible refine zB fun hb => ?_ | exact zC | refine zT ?_ | fail))
                refine hK (l.length - (k + 1)) _ (by omega) ⟨k + 1, by omega, rfl, fin _ hbe (.inl rfl), ?_⟩
                simp only [go_sem, simprocAttr, h2, h3, b3, h7, b7, h24, h25, h26, Int.natCast_succ]
            | false =>
              rw [hs] at hbe
              rcases k1 with q | q
              · have z : a.kind = 5 := q
                cases hfr : freeB nm l[k] with
                | true =>
                  rw [hfr] at hg
                  rw [got _ hbe rfl hfr]
                  (have hWf := WFx.mk (ai @h2 <| ai @h3 <| ai @b3 <| ai @h7 <| ai @b7 <| ai @h24 <| ai @h25 <| ai @h26 <| ai @hx2 <| ai @he2 <| ai @hil <| ai @z <| @hs); repeat' (first | refine zS ?_ | exact zE | with_reducible apply And.intro | refine zK (hg) ?_ | with_reducible exact zB0 | with_reducible refine zB fun hb => ?_ | exact zC | refine zT ?_ | fail))
                | false =>
                  rw [hfr] at hg
                  (have hWf := WFx.mk (ai @h2 <| ai @h3 <| ai @b3 <| ai @h7 <| ai @b7 <| ai @h24 <| ai @h25 <| ai @h26 <| ai @hx2 <| ai @he2 <| ai @hil <| ai @z <| @hs); repeat' (first | refine zS ?_ | exact zE | with_reducible apply And.intro | refine zK (hg) ?_ | with_reducible exact zB0 | with_reducible refine zB fun hb => ?_ | exact zC | refine zT ?_ | fail))
                  refine hK (l.length - (k + 1)) _ (by omega) ⟨k + 1, by omega, rfl, fin _ hbe (.inr hfr), ?_⟩
                  simp only [go_sem, simprocAttr, h2, h3, b3, h7, b7, h24, h25, h26, Int.natCast_succ]
              · have z : a.kind = 8 := q
                cases hfr : freeB nm l[k] with
                | true =>
                  rw [hfr] at hg
                  rw [got _ hbe rfl hfr]
                  (have hWf := WFx.mk (ai @h2 <| ai @h3 <| ai @b3 <| ai @h7 <| ai @b7 <| ai @h24 <| ai @h25 <| ai @h26 <| ai @hx2 <| ai @he2 <| ai @hil <| ai @z <| @hs); repeat' (first | refine zS ?_ | exact zE | with_reducible apply And.intro | refine zK (hg) ?_ | with_reducible exact zB0 | with_reducible refine zB fun hb => ?_ | exact zC | refine zT ?_ | fail))
                | false =>
                  rw [hfr] at hg
                  (have hWf := WFx.mk (ai @h2 <| ai @h3 <| ai @b3 <| ai @h7 <| ai @b7 <| ai @h24 <| ai @h25 <| ai @h26 <| ai @hx2 <| ai @he2 <| ai @hil <| ai @z <| @hs); repeat' (first | refine zS ?_ | exact zE | with_reducible apply And.intro | refine zK (hg) ?_ | with_reducible exact zB0 | with_reducible refine zB fun hb => ?_ | exact zC | refine zT ?_ | fail))
                  refine hK (l.length - (k + 1)) _ (by omega) ⟨k + 1, by omega, rfl, fin _ hbe (.inr hfr), ?_⟩
                  simp only [go_sem, simprocAttr, h2, h3, b3, h7, b7, h24, h25, h26, Int.natCast_succ]
          · rw [if_neg k1] at hbe
            simp only [not_or] at k1
            have f5 := kindF k1.1
            have f8 := kindF k1.2
            by_cases k2 : a.kind = 7 ∨ a.kind = 15
            · rw [if_pos k2] at hbe
              by_cases hk1 : k = 1
              · subst hk1
                cases hs : (a.s.toList == nm.toList) with
                | true =>
                  rw [hs] at hbe
                  rcases k2 with q | q
                  · have z : a.kind = 7 := q
                    (have hWf := WFx.mk (ai @h2 <| ai @h3 <| ai @b3 <| ai @h7 <| ai @b7 <| ai @h24 <| ai @h25 <| ai @h26 <| ai @hx2 <| ai @he2 <| ai @hil <| ai @z <| @hs); repeat' (first | refine zS ?_ | exact zE | with_reducible apply And.intro | refine zK (hg) ?_ | with_reducible exact zB0 | with_reducible refine zB fun hb => ?_ | exact zC | refine zT ?_ | fail))
                    refine hK (l.length - (1 + 1)) _ (by omega) ⟨1 + 1, by omega, rfl, fin _ hbe (.inl rfl), ?_⟩
                    simp only [go_sem, simprocAttr, h2, h3, b3, h7, b7, h24, h25, h26, Int.natCast_succ]
                  · have z : a.kind = 15 := q
                    (have hWf := WFx.mk (ai @h2 <| ai @h3 <| ai @b3 <| ai @h7 <| ai @b7 <| ai @h24 <| ai @h25 <| ai @h26 <| ai @hx2 <| ai @he2 <| ai @hil <| ai @z <| @hs); repeat' (first | refine zS ?_ | exact zE | with_reducible apply And.intro | refine zK (hg) ?_ | with_reducible exact zB0 | with_reducible refine zB fun hb => ?_ | exact zC | refine zT ?_ | fail))
                    refine hK (l.length - (1 + 1)) _ (by omega) ⟨1 + 1, by omega, rfl, fin _ hbe (.inl rfl), ?_⟩
                    simp only [go_sem, simprocAttr, h2, h3, b3, h7, b7, h24, h25, h26, Int.natCast_succ]
                | false =>
                  rw [hs] at hbe
                  rcases k2 with q | q
                  · have z : a.kind = 7 := q
                    cases hfr : freeB nm l[1] with
                    | true =>
                      rw [hfr] at hg
                      rw [got _ hbe rfl hfr]
                      (have hWf := WFx.mk (ai @h2 <| ai @h3 <| ai @b3 <| ai @h7 <| ai @b7 <| ai @h24 <| ai @h25 <| ai @h26 <| ai @hx2 <| ai @he2 <| ai @hil <| ai @z <| @hs); repeat' (first | refine zS ?_ | exact zE | with_reducible apply And.intro | refine zK (hg) ?_ | with_reducible exact zB0 | with_reducible refine zB fun hb => ?_ | exact zC | refine zT ?_ | fail))
                    | false =>
                      rw [hfr] at hg
                      (have hWf := WFx.mk (ai @h2 <| ai @h3 <| ai @b3 <| ai @h7 <| ai @b7 <| ai @h24 <| ai @h25 <| ai @h26 <| ai @hx2 <| ai @he2 <| ai @hil <| ai @z <| @hs); repeat' (first | refine zS ?_ | exact zE | with_reducible apply And.intro | refine zK (hg) ?_ | with_reducible exact zB0 | with_reducible refine zB fun hb => ?_ | exact zC | refine zT ?_ | fail))
                      refine hK (l.length - (1 + 1)) _ (by omega) ⟨1 + 1, by omega, rfl, fin _ hbe (.inr hfr), ?_⟩
                      simp only [go_sem, simprocAttr, h2, h3, b3, h7, b7, h24, h25, h26, Int.natCast_succ]
                  · have z : a.kind = 15 := q
                    cases hfr : freeB nm l[1] with
                    | true =>
                      rw [hfr] at hg
                      rw [got _ hbe rfl hfr]
                      (have hWf := WFx.mk (ai @h2 <| ai @h3 <| ai @b3 <| ai @h7 <| ai @b7 <| ai @h24 <| ai @h25 <| ai @h26 <| ai @hx2 <| ai @he2 <| ai @hil <| ai @z <| @hs); repeat' (first | refine zS ?_ | exact zE | with_reducible apply And.intro | refine zK (hg) ?_ | with_reducible exact zB0 | with_reducible refine zB fun hb => ?_ | exact zC | refine zT ?_ | fail))
                    | false =>
                      rw [hfr] at hg
                      (have hWf := WFx.mk (ai @h2 <| ai @h3 <| ai @b3 <| ai @h7 <| ai @b7 <| ai @h24 <| ai @h25 <| ai @h26 <| ai @hx2 <| ai @he2 <| ai @hil <| ai @z <| @hs); repeat' (first | refine zS ?_ | exact zE | with_reducible apply And.intro | refine zK (hg) ?_ | with_reducible exact zB0 | with_reducible refine zB fun hb => ?_ | exact zC | refine zT ?_ | fail))
                      refine hK (l.length - (1 + 1)) _ (by omega) ⟨1 + 1, by omega, rfl, fin _ hbe (.inr hfr), ?_⟩
                      simp only [go_sem, simprocAttr, h2, h3, b3, h7, b7, h24, h25, h26, Int.natCast_succ]
              · rw [decide_eq_false hk1, Bool.false_and] at hbe
                have e1 : ((k : Int) == 1) = false := by simp; omega
                rcases k2 with q | q
                · have z : a.kind = 7 := q
                  cases hfr : freeB nm l[k] with
                  | true =>
                    rw [hfr] at hg
                    rw [got _ hbe rfl hfr]
                    (have hWf := WFx.mk (ai @h2 <| ai @h3 <| ai @b3 <| ai @h7 <| ai @b7 <| ai @h24 <| ai @h25 <| ai @h26 <| ai @hx2 <| ai @he2 <| ai @hil <| ai @z <| @e1); repeat' (first | refine zS ?_ | exact zE | with_reducible apply And.intro | refine zK (hg) ?_ | with_reducible exact zB0 | with_reducible refine zB fun hb => ?_ | exact zC | refine zT ?_ | fail))
                  | false =>
                    rw [hfr] at hg
                    (have hWf := WFx.mk (ai @h2 <| ai @h3 <| ai @b3 <| ai @h7 <| ai @b7 <| ai @h24 <| ai @h25 <| ai @h26 <| ai @hx2 <| ai @he2 <| ai @hil <| ai @z <| @e1); repeat' (first | refine zS ?_ | exact zE | with_reducible apply And.intro | refine zK (hg) ?_ | with_reducible exact zB0 | with_reducible refine zB fun hb => ?_ | exact zC | refine zT ?_ | fail))
                    refine hK (l.length - (k + 1)) _ (by omega) ⟨k + 1, by omega, rfl, fin _ hbe (.inr hfr), ?_⟩
                    simp only [go_sem, simprocAttr, h2, h3, b3, h7, b7, h24, h25, h26, Int.natCast_succ]
                · have z : a.kind = 15 := q
                  cases hfr : freeB nm l[k] with
                  | true =>
                    rw [hfr] at hg
                    rw [got _ hbe rfl hfr]
                    (have hWf := WFx.mk (ai @h2 <| ai @h3 <| ai @b3 <| ai @h7 <| ai @b7 <| ai @h24 <| ai @h25 <| ai @h26 <| ai @hx2 <| ai @he2 <| ai @hil <| ai @z <| @e1); repeat' (first | refine zS ?_ | exact zE | with_reducible apply And.intro | refine zK (hg) ?_ | with_reducible exact zB0 | with_reducible refine zB fun hb => ?_ | exact zC | refine zT ?_ | fail))
                  | false =>
                    rw [hfr] at hg
                    (have hWf := WFx.mk (ai @h2 <| ai @h3 <| ai @b3 <| ai @h7 <| ai @b7 <| ai @h24 <| ai @h25 <| ai @h26 <| ai @hx2 <| ai @he2 <| ai @hil <| ai @z <| @e1); repeat' (first | refine zS ?_ | exact zE | with_reducible apply And.intro | refine zK (hg) ?_ | with_reducible exact zB0 | with_reducible refine zB fun hb => ?_ | exact zC | refine zT ?_ | fail))
                    refine hK (l.length - (k + 1)) _ (by omega) ⟨k + 1, by omega, rfl, fin _ hbe (.inr hfr), ?_⟩
                    simp only [go_sem, simprocAttr, h2, h3, b3, h7, b7, h24, h25, h26, Int.natCast_succ]
            · rw [if_neg k2] at hbe
              simp only [not_or] at k2
              have f7 := kindF k2.1
              have f15 := kindF k2.2
              by_cases k13 : a.kind = 13
              · rw [if_pos k13] at hbe
                have hh := h13 k13
                by_cases hk0 : 0 < k
                · have hlp : k - 1 < a.pats.length := by omega
                  have hx3 := getD_map MPat.enc a.pats (k - 1) hlp
                  have he3 := MPat.enc_eq a.pats[k - 1]
                  have hc3 : ((k : Int) - 1).toNat = k - 1 := by omega
                  have hbn := c_l09Binds a.pats[k - 1].nodes (hp.2 _ (List.getElem_mem hlp)).1 nm
                  have hg0 : a.pats.getD (k - 1) ⟨[]⟩ = a.pats[k - 1] := by rw [List.getD_eq_getElem?_getD, List.getElem?_eq_getElem hlp]; rfl
                  have hb0 : decide ((0 : Int) < (k : Int)) = true := by simpa using hk0
                  rw [hg0, decide_eq_true hk0, Bool.true_and, patHas_hasN] at hbe
                  cases hs : hasN a.pats[k - 1].nodes nm with
                  | true =>
                    rw [hs] at hbe hbn
                    (have hWf := WFx.mk (ai @h2 <| ai @h3 <| ai @b3 <| ai @h7 <| ai @b7 <| ai @h24 <| ai @h25 <| ai @h26 <| ai @hx2 <| ai @he2 <| ai @hil <| ai @k13 <| ai @hx3 <| ai @he3 <| ai @hc3 <| @hb0); repeat' (first | refine zS ?_ | exact zE | with_reducible apply And.intro | refine zK (hbn) ?_ | refine zK (hg) ?_ | with_reducible exact zB0 | with_reducible refine zB fun hb => ?_ | exact zC | refine zT ?_ | fail))
                    refine hK (l.length - (k + 1)) _ (by omega) ⟨k + 1, by omega, rfl, fin _ hbe (.inl rfl), ?_⟩
                    simp only [go_sem, simprocAttr, h2, h3, b3, h7, b7, h24, h25, h26, Int.natCast_succ]
                  | false =>
                    rw [hs] at hbe hbn
                    cases hfr : freeB nm l[k] with
                    | true =>
                      rw [hfr] at hg
                      rw [got _ hbe rfl hfr]
                      (have hWf := WFx.mk (ai @h2 <| ai @h3 <| ai @b3 <| ai @h7 <| ai @b7 <| ai @h24 <| ai @h25 <| ai @h26 <| ai @hx2 <| ai @he2 <| ai @hil <| ai @k13 <| ai @hx3 <| ai @he3 <| ai @hc3 <| @hb0); repeat' (first | refine zS ?_ | exact zE | with_reducible apply And.intro | refine zK (hbn) ?_ | refine zK (hg) ?_ | with_reducible exact zB0 | with_reducible refine zB fun hb => ?_ | exact zC | refine zT ?_ | fail))
                    | false =>
                      rw [hfr] at hg
                      (have hWf := WFx.mk (ai @h2 <| ai @h3 <| ai @b3 <| ai @h7 <| ai @b7 <| ai @h24 <| ai @h25 <| ai @h26 <| ai @hx2 <| ai @he2 <| ai @hil <| ai @k13 <| ai @hx3 <| ai @he3 <| ai @hc3 <| @hb0); repeat' (first | refine zS ?_ | exact zE | with_reducible apply And.intro | refine zK (hbn) ?_ | refine zK (hg) ?_ | with_reducible exact zB0 | with_reducible refine zB fun hb => ?_ | exact zC | refine zT ?_ | fail))
                      refine hK (l.length - (k + 1)) _ (by omega) ⟨k + 1, by omega, rfl, fin _ hbe (.inr hfr), ?_⟩
                      simp only [go_sem, simprocAttr, h2, h3, b3, h7, b7, h24, h25, h26, Int.natCast_succ]
                · obtain rfl : k = 0 := by omega
                  have hbe : bindsM a nm 0 = false := hbe
                  cases hfr : freeB nm l[0] with
                  | true =>
                    rw [hfr] at hg
                    rw [got _ hbe rfl hfr]
                    (have hWf := WFx.mk (ai @h2 <| ai @h3 <| ai @b3 <| ai @h7 <| ai @b7 <| ai @h24 <| ai @h25 <| ai @h26 <| ai @hx2 <| ai @he2 <| ai @hil <| @k13); repeat' (first | refine zS ?_ | exact zE | with_reducible apply And.intro | refine zK (hg) ?_ | with_reducible exact zB0 | with_reducible refine zB fun hb => ?_ | exact zC | refine zT ?_ | fail))
                  | false =>
                    rw [hfr] at hg
                    (have hWf := WFx.mk (ai @h2 <| ai @h3 <| ai @b3 <| ai @h7 <| ai @b7 <| ai @h24 <| ai @h25 <| ai @h26 <| ai @hx2 <| ai @he2 <| ai @hil <| @k13); repeat' (first | refine zS ?_ | exact zE | with_reducible apply And.intro | refine zK (hg) ?_ | with_reducible exact zB0 | with_reducible refine zB fun hb => ?_ | exact zC | refine zT ?_ | fail))
                    refine hK (l.length - (0 + 1)) _ (by omega) ⟨0 + 1, by omega, rfl, fin _ hbe (.inr hfr), ?_⟩
                    simp only [go_sem, simprocAttr, h2, h3, b3, h7, b7, h24, h25, h26, Int.natCast_succ]
              · rw [if_neg k13] at hbe
                have f13 := kindF k13
                cases hfr : freeB nm l[k] with
                | true =>
                  rw [hfr] at hg
                  rw [got _ hbe rfl hfr]
                  (have hWf := WFx.mk (ai @h2 <| ai @h3 <| ai @b3 <| ai @h7 <| ai @b7 <| ai @h24 <| ai @h25 <| ai @h26 <| ai @hx2 <| ai @he2 <| ai @hil <| ai @f5 <| ai @f8 <| ai @f7 <| ai @f15 <| @f13); repeat' (first | refine zS ?_ | exact zE | with_reducible apply And.intro | refine zK (hg) ?_ | with_reducible exact zB0 | with_reducible refine zB fun hb => ?_ | exact zC | refine zT ?_ | fail))
                | false =>
                  rw [hfr] at hg
                  (have hWf := WFx.mk (ai @h2 <| ai @h3 <| ai @b3 <| ai @h7 <| ai @b7 <| ai @h24 <| ai @h25 <| ai @h26 <| ai @hx2 <| ai @he2 <| ai @hil <| ai @f5 <| ai @f8 <| ai @f7 <| ai @f15 <| @f13); repeat' (first | refine zS ?_ | exact zE | with_reducible apply And.intro | refine zK (hg) ?_ | with_reducible exact zB0 | with_reducible refine zB fun hb => ?_ | exact zC | refine zT ?_ | fail))
                  refine hK (l.length - (k + 1)) _ (by omega) ⟨k + 1, by omega, rfl, fin _ hbe (.inr hfr), ?_⟩
                  simp only [go_sem, simprocAttr, h2, h3, b3, h7, b7, h24, h25, h26, Int.natCast_succ]
        · obtain rfl : k = l.length := by omega
          rw [List.take_length] at hz
          rw [hz]
          (have hWf := WFx.mk (ai @h2 <| ai @h3 <| ai @b3 <| ai @h7 <| ai @b7 <| ai @h24 <| ai @h25 <| @h26); repeat' (first | refine zS ?_ | exact zE | with_reducible apply And.intro | with_reducible exact zB0 | with_reducible refine zB fun hb => ?_ | exact zC | refine zT ?_ | fail))
          all_goals rfl
end Go.Proofs.YtgcdbmcoendcdaaGreat
