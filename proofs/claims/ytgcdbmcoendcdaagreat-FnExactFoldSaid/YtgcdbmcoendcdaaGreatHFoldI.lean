import Derived.Test.YtgcdbmcoendcdaaGreatExB
import Derived.Test.YtgcdbmcoendcdaaGreatNmB
import Derived.Test.YtgcdbmcoendcdaaGreatFoldM
import Derived.Test.YtgcdbmcoendcdaaGreatNumWalks
/- Folding in the program, over the second engine: names, counts, constants. -/
set_option maxRecDepth 100000
set_option maxHeartbeats 1000000
namespace Go.Proofs.YtgcdbmcoendcdaaGreat
set_option linter.unusedVariables false
set_option linter.unusedSimpArgs false
open Go.RowKit Arb
def pnF (xs : List DPNode) : List ByteArray := (xs.filter fun x => x.kind == 2).map fun x => x.s
theorem pnF_succ {xs : List DPNode} {k : Nat} (h : k < xs.length) : pnF (xs.take (k + 1)) = if xs[k].kind = 2 then pnF (xs.take k) ++ [xs[k].s] else pnF (xs.take k) := by
  unfold pnF
  rw [List.take_succ_eq_append_getElem h, List.filter_append, List.map_append]
  by_cases h2 : xs[k].kind = 2 <;> simp [h2]
theorem pnF_len (xs : List DPNode) : (pnF xs).length ≤ xs.length := by
  unfold pnF
  rw [List.length_map]; exact List.length_filter_le _ _
theorem pnF_has (q : MPat) (nm : ByteArray) : inL nm (pnF q.nodes) = patHas q nm := by
  rw [Bool.eq_iff_iff, inL_iff]
  unfold pnF patHas
  simp only [List.mem_map, List.mem_filter, List.any_eq_true, Bool.and_eq_true, beq_iff_eq]
  constructor
  · rintro ⟨x, ⟨h1, h2⟩, rfl⟩
    exact ⟨x, h1, h2, rfl⟩
  · rintro ⟨x, h1, h2, h3⟩
    refine ⟨x, ⟨h1, h2⟩, ?_⟩
    rw [ByteArray.toList_eq, ByteArray.toList_eq] at h3
    exact ByteArray.ext (Array.ext' h3)
theorem c_patNamesF (xs : List DPNode) (hl : xs.length ≤ 1000000) : FCon Tryz.prog 207 [.ag [.sl 4 (xs.map DPNode.enc)]] (fun r _ => r = .osl 9 1 ((pnF xs).map stE)) := by
  refine FCon.intro PM _ Tryz.func207 (by kernel_rfl) rfl _ Tryz.ntmps207 rfl [] (by decide +kernel) (by simp) (by simp) rfl (by first | rfl | simp only [go_sem]) ?_
  (have hWf := f0; repeat' (first | refine zS ?_ | exact zE | with_reducible apply And.intro | with_reducible exact zB0 | with_reducible refine zB fun hb => ?_ | exact zC | refine zT ?_ | fail))
  refine AC_loop (fun n σ => ∃ k : Nat, k ≤ xs.length ∧ n = xs.length - k ∧ σ.t 3 = .bs 6 1 (pnF (xs.take k)).length ∧ σ.b 6 = some (.arr 9 1 ((pnF (xs.take k)).map stE)) ∧ σ.t 8 = .sl 4 (xs.map DPNode.enc) ∧ σ.t 9 = .s (.int .i64 xs.length) ∧ σ.t 10 = .s (.int .i64 k)) xs.length ⟨0, by omega, by omega, ?_⟩ ?_
  · simp only [go_sem, simprocAttr, Int.natCast_zero, List.take_zero, pnF]
  · rintro n σ ⟨k, hk, rfl, h3, b6, h8, h9, h10⟩ K' hK
    by_cases hlt : k < xs.length
    · have hx := getD_map DPNode.enc xs k hlt
      have he := DPNode.enc_eq xs[k]
      have hpl := pnF_len (xs.take k)
      rw [List.length_take] at hpl
      have hs := pnF_succ hlt
      by_cases h2 : xs[k].kind = 2
      · have e2 : (xs[k].kind == 2) = true := by simpa using h2
        rw [if_pos h2] at hs
        (have hWf := WFx.mk (ai @h3 <| ai @b6 <| ai @h8 <| ai @h9 <| ai @h10 <| ai @hx <| ai @he <| @e2); repeat' (first | refine zS ?_ | exact zE | with_reducible apply And.intro | with_reducible exact zB0 | with_reducible refine zB fun hb => ?_ | exact zC | refine zT ?_ | fail))
        refine hK (xs.length - (k + 1)) _ (by omega) ⟨k + 1, by omega, rfl, ?_⟩
        simp only [go_sem, simprocAttr, h3, b6, h8, h9, h10, Int.natCast_succ, hs, List.map_append, List.length_append, stE_eq]
      · have e2 : (xs[k].kind == 2) = false := by simpa using h2
        rw [if_neg h2] at hs
        (have hWf := WFx.mk (ai @h3 <| ai @b6 <| ai @h8 <| ai @h9 <| ai @h10 <| ai @hx <| ai @he <| @e2); repeat' (first | refine zS ?_ | exact zE | with_reducible apply And.intro | with_reducible exact zB0 | with_reducible refine zB fun hb => ?_ | exact zC | refine zT ?_ | fail))
        refine hK (xs.length - (k + 1)) _ (by omega) ⟨k + 1, by omega, rfl, ?_⟩
        simp only [go_sem, simprocAttr, h3, b6, h8, h9, h10, Int.natCast_succ, hs]
    · obtain rfl : k = xs.length := by omega
      rw [List.take_length] at h3 b6
      (have hWf := WFx.mk (ai @h3 <| ai @b6 <| ai @h8 <| ai @h9 <| @h10); repeat' (first | refine zS ?_ | exact zE | with_reducible apply And.intro | with_reducible exact zB0 | with_reducible refine zB fun hb => ?_ | exact zC | refine zT ?_ | fail))
theorem bindsM_eq (a : EI) (nm : ByteArray) (i : Nat) : bindsM a nm i = if a.kind = 5 ∨ a.kind = 8 then a.s.toList == nm.toList
  else if a.kind = 7 ∨ a.kind = 15 then decide (i = 1) && (a.s.toList == nm.toList)
  else if a.kind = 13 then decide (0 < i) && patHas (a.pats.getD (i - 1) ⟨[]⟩) nm
  else false := rfl
theorem c_binds (a : EI) (l : List ET) (hp : patsB a.pats) (i : Nat) (hi : i ≤ 1000000) (hm : a.kind = 13 → i ≤ a.pats.length) (nm : ByteArray) : FCon Tryz.prog 165 [exE (.mk a l), .s (.int .i64 i), .s (.string nm)] (fun r _ => r = .s (.bool (bindsM a nm i))) := by
  rw [exE_mk, bindsM_eq]
  have e1 : ((i : Int) == 1) = decide (i = 1) := by
    rw [Bool.eq_iff_iff]; simp only [beq_iff_eq, decide_eq_true_eq]; omega
  by_cases k1 : a.kind = 5 ∨ a.kind = 8
  · rw [if_pos k1]
    rcases k1 with k | k
    · refine FCon.intro PM _ Tryz.func165 (by kernel_rfl) rfl _ Tryz.ntmps165 rfl [] (by decide +kernel) (by simp) (by simp) rfl (by first | rfl | simp only [go_sem]) ?_
      (have hWf := WFx.mk @k; repeat' (first | refine zS ?_ | exact zE | with_reducible apply And.intro | with_reducible exact zB0 | with_reducible refine zB fun hb => ?_ | exact zC | refine zT ?_ | fail))
    · refine FCon.intro PM _ Tryz.func165 (by kernel_rfl) rfl _ Tryz.ntmps165 rfl [] (by decide +kernel) (by simp) (by simp) rfl (by first | rfl | simp only [go_sem]) ?_
      (have hWf := WFx.mk @k; repeat' (first | refine zS ?_ | exact zE | with_reducible apply And.intro | with_reducible exact zB0 | with_reducible refine zB fun hb => ?_ | exact zC | refine zT ?_ | fail))
  · rw [if_neg k1]
    by_cases k2 : a.kind = 7 ∨ a.kind = 15
    · rw [if_pos k2]
      rcases k2 with k | k
      · by_cases hi1 : i = 1
        · subst hi1
          refine FCon.intro PM _ Tryz.func165 (by kernel_rfl) rfl _ Tryz.ntmps165 rfl [] (by decide +kernel) (by simp) (by simp) rfl (by first | rfl | simp only [go_sem]) ?_
          (have hWf := WFx.mk @k; repeat' (first | refine zS ?_ | exact zE | with_reducible apply And.intro | with_reducible exact zB0 | with_reducible refine zB fun hb => ?_ | exact zC | refine zT ?_ | fail))
        · have e2 : ((i : Int) == 1) = false := by rw [e1]; simp [hi1]
          refine FCon.intro PM _ Tryz.func165 (by kernel_rfl) rfl _ Tryz.ntmps165 rfl [] (by decide +kernel) (by simp) (by simp) rfl (by first | rfl | simp only [go_sem]) ?_
          (have hWf := WFx.mk (ai @k <| @e2); repeat' (first | refine zS ?_ | exact zE | with_reducible apply And.intro | with_reducible exact zB0 | with_reducible refine zB fun hb => ?_ | exact zC | refine zT ?_ | fail))
          simp [hi1]
      · by_cases hi1 : i = 1
        · subst hi1
          refine FCon.intro PM _ Tryz.func165 (by kernel_rfl) rfl _ Tryz.ntmps165 rfl [] (by decide +kernel) (by simp) (by simp) rfl (by first | rfl | simp only [go_sem]) ?_
          (have hWf := WFx.mk @k; repeat' (first | refine zS ?_ | exact zE | with_reducible apply And.intro | with_reducible exact zB0 | with_reducible refine zB fun hb => ?_ | exact zC | refine zT ?_ | fail))
        · have e2 : ((i : Int) == 1) = false := by rw [e1]; simp [hi1]
          refine FCon.intro PM _ Tryz.func165 (by kernel_rfl) rfl _ Tryz.ntmps165 rfl [] (by decide +kernel) (by simp) (by simp) rfl (by first | rfl | simp only [go_sem]) ?_
          (have hWf := WFx.mk (ai @k <| @e2); repeat' (first | refine zS ?_ | exact zE | with_reducible apply And.intro | with_reducible exact zB0 | with_reducible refine zB fun hb => ?_ | exact zC | refine zT ?_ | fail))
          simp [hi1]
    · rw [if_neg k2]
      by_cases k3 : a.kind = 13
      · rw [if_pos k3]
        by_cases hi0 : 0 < i
        · have hlt : i - 1 < a.pats.length := by have := hm k3; omega
          have hx := getD_map MPat.enc a.pats (i - 1) hlt
          have he := MPat.enc_eq a.pats[i - 1]
          have hc : ((i : Int) - 1).toNat = i - 1 := by omega
          have hq := hp.2 _ (List.getElem_mem hlt)
          have hpn := c_patNamesF a.pats[i - 1].nodes hq.1
          have hco := c_Contains_str (pnF a.pats[i - 1].nodes) nm
          rw [pnF_has] at hco
          have hg : a.pats.getD (i - 1) ⟨[]⟩ = a.pats[i - 1] := by rw [List.getD_eq_getElem?_getD, List.getElem?_eq_getElem hlt]; rfl
          have hb0 : decide ((0 : Int) < (i : Int)) = true := by simpa using hi0
          rw [hg, decide_eq_true hi0, Bool.true_and]
          refine FCon.intro PM _ Tryz.func165 (by kernel_rfl) rfl _ Tryz.ntmps165 rfl [] (by decide +kernel) (by simp) (by simp) rfl (by first | rfl | simp only [go_sem]) ?_
          (have hWf := WFx.mk (ai @k3 <| ai @hx <| ai @he <| ai @hc <| ai @hb0 <| @stE_frz); repeat' (first | refine zS ?_ | exact zE | with_reducible apply And.intro | refine zK (hpn) ?_ | refine zK (hco) ?_ | with_reducible exact zB0 | with_reducible refine zB fun hb => ?_ | exact zC | refine zT ?_ | fail))
        · obtain rfl : i = 0 := by omega
          refine FCon.intro PM _ Tryz.func165 (by kernel_rfl) rfl _ Tryz.ntmps165 rfl [] (by decide +kernel) (by simp) (by simp) rfl (by first | rfl | simp only [go_sem]) ?_
          (have hWf := WFx.mk @k3; repeat' (first | refine zS ?_ | exact zE | with_reducible apply And.intro | with_reducible exact zB0 | with_reducible refine zB fun hb => ?_ | exact zC | refine zT ?_ | fail))
      · rw [if_neg k3]
        simp only [not_or] at k1 k2
        have f5 : (a.kind == 5) = false := by simpa using k1.1
        have f8 : (a.kind == 8) = false := by simpa using k1.2
        have f7 : (a.kind == 7) = false := by simpa using k2.1
        have f15 : (a.kind == 15) = false := by simpa using k2.2
        have f13 : (a.kind == 13) = false := by simpa using k3
        refine FCon.intro PM _ Tryz.func165 (by kernel_rfl) rfl _ Tryz.ntmps165 rfl [] (by decide +kernel) (by simp) (by simp) rfl (by first | rfl | simp only [go_sem]) ?_
        (have hWf := WFx.mk (ai @f5 <| ai @f8 <| ai @f7 <| ai @f15 <| @f13); repeat' (first | refine zS ?_ | exact zE | with_reducible apply And.intro | with_reducible exact zB0 | with_reducible refine zB fun hb => ?_ | exact zC | refine zT ?_ | fail))
theorem kindF {k z : Int} (h : ¬ k = z) : (k == z) = false := by simpa using h
theorem exS_mkF (b : EI) (r : List ET) : exS (.mk b r) = [.pt [.s (.int .i64 b.kind), .s (.int .i64 b.at_), .s (.int .i64 b.n), .s (.string b.s), .sl 1 (r.map exS), .sl 1 (b.pats.map MPat.enc)]] := by show [exE _] = _; rw [exE_mk]
def cntN (a : EI) (l : List ET) : Prop := patsB a.pats ∧ (a.kind = 13 → l.length ≤ a.pats.length + 1)
theorem c_count (nm : ByteArray) : ∀ t : ET, All cntN t → t.size ≤ 1000000 → FCon Tryz.prog 83 [exE t, .s (.string nm)] (fun r _ => r = .s (.int .i64 (countM nm t))) := fun t => by
  induction t using Arb.ind with
  | h a l ih =>
    intro hA hs
    rw [size_mk] at hs
    have hll := sizeL_len l
    obtain ⟨hp, hm⟩ := hA.root
    rw [countM_mk]
    by_cases k3 : a.kind = 3
    · rw [if_pos k3, exE_mk]
      cases he : (a.s.toList == nm.toList) with
      | true =>
        refine FCon.intro PM _ Tryz.func83 (by kernel_rfl) rfl _ Tryz.ntmps83 rfl [] (by decide +kernel) (by simp) (by simp) rfl (by first | rfl | simp only [go_sem]) ?_
        (have hWf := WFx.mk (ai @k3 <| @he); repeat' (first | refine zS ?_ | exact zE | with_reducible apply And.intro | with_reducible exact zB0 | with_reducible refine zB fun hb => ?_ | exact zC | refine zT ?_ | fail))
      | false =>
        refine FCon.intro PM _ Tryz.func83 (by kernel_rfl) rfl _ Tryz.ntmps83 rfl [] (by decide +kernel) (by simp) (by simp) rfl (by first | rfl | simp only [go_sem]) ?_
        (have hWf := WFx.mk (ai @k3 <| @he); repeat' (first | refine zS ?_ | exact zE | with_reducible apply And.intro | with_reducible exact zB0 | with_reducible refine zB fun hb => ?_ | exact zC | refine zT ?_ | fail))
    · rw [if_neg k3]
      have f3 := kindF k3
      have hbd := fun i hi h13 => c_binds a l hp i hi h13 nm
      rw [exE_mk] at hbd ⊢
      have hcl := fun k => Nat.le_trans (countL_mono nm a l k) (countL_le_of (nm := nm) (a := a) (fun t _ => countM_le nm t) 0)
      refine FCon.intro PM _ Tryz.func83 (by kernel_rfl) rfl _ Tryz.ntmps83 rfl [] (by decide +kernel) (by simp) (by simp) rfl (by first | rfl | simp only [go_sem]) ?_
      (have hWf := WFx.mk @f3; repeat' (first | refine zS ?_ | exact zE | with_reducible apply And.intro | with_reducible exact zB0 | with_reducible refine zB fun hb => ?_ | exact zC | refine zT ?_ | fail))
      refine AC_loop (fun n σ => ∃ k : Nat, k ≤ l.length ∧ n = l.length - k ∧ σ.t 0 = .pt [.s (.int .i64 a.kind), .s (.int .i64 a.at_), .s (.int .i64 a.n), .s (.string a.s), .sl 1 (l.map exS), .sl 1 (a.pats.map MPat.enc)] ∧ σ.t 1 = .s (.string nm) ∧ σ.t 5 = .s (.int .i64 (countL nm a 0 (l.take k))) ∧ σ.t 22 = .sl 1 (l.map exS) ∧ σ.t 23 = .s (.int .i64 l.length) ∧ σ.t 24 = .s (.int .i64 k)) l.length ⟨0, by omega, by omega, ?_⟩ ?_
      · simp only [go_sem, simprocAttr, Int.natCast_zero, List.take_zero, countL_nil]
      · rintro n σ ⟨k, hk, rfl, h0, h1, h5, h22, h23, h24⟩ K' hK
        by_cases hlt : k < l.length
        · have hx := getD_map exS l k hlt
          have he : exS l[k] = [exE l[k]] := rfl
          have hz : l[k].size ≤ 1000000 := by have := size_mem (List.getElem_mem hlt); omega
          have hi := ih l[k] (List.getElem_mem hlt) (hA.kid _ (List.getElem_mem hlt)) hz
          have hbn := hbd k (by omega) (fun q => by have := hm q; omega)
          have hct := countL_take nm a l k hlt
          have hc1 := hcl k
          have hc2 := countM_le nm l[k]
          obtain ⟨b, r, hbr⟩ : ∃ b r, l[k] = .mk b r := ⟨_, _, Arb.eta _⟩
          have hex : exS l[k] = [.pt [.s (.int .i64 b.kind), .s (.int .i64 b.at_), .s (.int .i64 b.n), .s (.string b.s), .sl 1 (r.map exS), .sl 1 (b.pats.map MPat.enc)]] := by rw [hbr, exS_mkF]
          have hi2 : FCon Tryz.prog 83 [.pt [.s (.int .i64 b.kind), .s (.int .i64 b.at_), .s (.int .i64 b.n), .s (.string b.s), .sl 1 (r.map exS), .sl 1 (b.pats.map MPat.enc)], .s (.string nm)] (fun x _ => x = .s (.int .i64 (countM nm l[k]))) := by rw [hbr] at hi ⊢; rw [exE_mk] at hi; exact hi
          cases hbm : bindsM a nm k with
          | true =>
            rw [hbm] at hbn hct
            (have hWf := WFx.mk (ai @h0 <| ai @h1 <| ai @h5 <| ai @h22 <| ai @h23 <| ai @h24 <| ai @hx <| @hex); repeat' (first | refine zS ?_ | exact zE | with_reducible apply And.intro | refine zK (hbn) ?_ | with_reducible exact zB0 | with_reducible refine zB fun hb => ?_ | exact zC | refine zT ?_ | fail))
            refine hK (l.length - (k + 1)) _ (by omega) ⟨k + 1, by omega, rfl, ?_⟩
            simp only [go_sem, simprocAttr, h0, h1, h5, h22, h23, h24, Int.natCast_succ, hct]
          | false =>
            rw [hbm] at hbn hct
            (have hWf := WFx.mk (ai @h0 <| ai @h1 <| ai @h5 <| ai @h22 <| ai @h23 <| ai @h24 <| ai @hx <| @hex); repeat' (first | refine zS ?_ | exact zE | with_reducible apply And.intro | refine zK (hbn) ?_ | refine zK (hi2) ?_ | with_reducible exact zB0 | with_reducible refine zB fun hb => ?_ | exact zC | refine zT ?_ | fail))
            refine hK (l.length - (k + 1)) _ (by omega) ⟨k + 1, by omega, rfl, ?_⟩
            simp only [go_sem, simprocAttr, h0, h1, h5, h22, h23, h24, Int.natCast_succ, hct, Int.natCast_add]
        · obtain rfl : k = l.length := by omega
          rw [List.take_length] at h5
          (have hWf := WFx.mk (ai @h0 <| ai @h1 <| ai @h5 <| ai @h22 <| ai @h23 <| @h24); repeat' (first | refine zS ?_ | exact zE | with_reducible apply And.intro | with_reducible exact zB0 | with_reducible refine zB fun hb => ?_ | exact zC | refine zT ?_ | fail))
def isPl (a : EI) (n : Nat) : Bool := decide (a.kind = 1 ∨ a.kind = 2 ∨ a.kind = 12) || (decide (a.kind = 4) && decide (n = 0))
theorem c_isPlain (a : EI) (l : List ET) : FCon Tryz.prog 82 [exE (.mk a l)] (fun r _ => r = .s (.bool (isPl a l.length))) := by
  rw [exE_mk]
  have e : isPl a l.length = isPl a l.length := rfl
  conv at e => rhs; unfold isPl
  rw [e]; clear e
  by_cases k1 : a.kind = 1
  · refine FCon.intro PM _ Tryz.func82 (by kernel_rfl) rfl _ Tryz.ntmps82 rfl [] (by decide +kernel) (by simp) (by simp) rfl (by first | rfl | simp only [go_sem]) ?_
    (have hWf := WFx.mk @k1; repeat' (first | refine zS ?_ | exact zE | with_reducible apply And.intro | with_reducible exact zB0 | with_reducible refine zB fun hb => ?_ | exact zC | refine zT ?_ | fail))
  · by_cases k2 : a.kind = 2
    · refine FCon.intro PM _ Tryz.func82 (by kernel_rfl) rfl _ Tryz.ntmps82 rfl [] (by decide +kernel) (by simp) (by simp) rfl (by first | rfl | simp only [go_sem]) ?_
      (have hWf := WFx.mk @k2; repeat' (first | refine zS ?_ | exact zE | with_reducible apply And.intro | with_reducible exact zB0 | with_reducible refine zB fun hb => ?_ | exact zC | refine zT ?_ | fail))
    · by_cases k12 : a.kind = 12
      · refine FCon.intro PM _ Tryz.func82 (by kernel_rfl) rfl _ Tryz.ntmps82 rfl [] (by decide +kernel) (by simp) (by simp) rfl (by first | rfl | simp only [go_sem]) ?_
        (have hWf := WFx.mk @k12; repeat' (first | refine zS ?_ | exact zE | with_reducible apply And.intro | with_reducible exact zB0 | with_reducible refine zB fun hb => ?_ | exact zC | refine zT ?_ | fail))
      · have f1 := kindF k1
        have f2 := kindF k2
        have f12 := kindF k12
        by_cases k4 : a.kind = 4
        · cases l with
          | nil =>
            refine FCon.intro PM _ Tryz.func82 (by kernel_rfl) rfl _ Tryz.ntmps82 rfl [] (by decide +kernel) (by simp) (by simp) rfl (by first | rfl | simp only [go_sem]) ?_
            (have hWf := WFx.mk @k4; repeat' (first | refine zS ?_ | exact zE | with_reducible apply And.intro | with_reducible exact zB0 | with_reducible refine zB fun hb => ?_ | exact zC | refine zT ?_ | fail))
          | cons x r =>
            have hz : (((r.length + 1 : Nat) : Int) == 0) = false := by simp; omega
            refine FCon.intro PM _ Tryz.func82 (by kernel_rfl) rfl _ Tryz.ntmps82 rfl [] (by decide +kernel) (by simp) (by simp) rfl (by first | rfl | simp only [go_sem]) ?_
            (have hWf := WFx.mk (ai @k4 <| @hz); repeat' (first | refine zS ?_ | exact zE | with_reducible apply And.intro | with_reducible exact zB0 | with_reducible refine zB fun hb => ?_ | exact zC | refine zT ?_ | fail))
        · have f4 := kindF k4
          refine FCon.intro PM _ Tryz.func82 (by kernel_rfl) rfl _ Tryz.ntmps82 rfl [] (by decide +kernel) (by simp) (by simp) rfl (by first | rfl | simp only [go_sem]) ?_
          (have hWf := WFx.mk (ai @f1 <| ai @f2 <| ai @f12 <| @f4); repeat' (first | refine zS ?_ | exact zE | with_reducible apply And.intro | with_reducible exact zB0 | with_reducible refine zB fun hb => ?_ | exact zC | refine zT ?_ | fail))
          simp [k1, k2, k12, k4]
theorem t_true : (⟨#[116, 114, 117, 101]⟩ : ByteArray).toList = [116, 114, 117, 101] := by rw [ByteArray.toList_eq]
theorem t_false : (⟨#[102, 97, 108, 115, 101]⟩ : ByteArray).toList = [102, 97, 108, 115, 101] := by rw [ByteArray.toList_eq]
theorem c_truthOf (a : EI) (l : List ET) : FCon Tryz.prog 81 [exE (.mk a l)] (fun r _ => r = .s (.int .i64 (truthM a))) := by
  rw [exE_mk]
  have e : truthM a = truthM a := rfl
  conv at e => rhs; unfold truthM
  rw [e]; clear e
  by_cases k4 : a.kind = 4
  · by_cases h1 : a.s.toList = [116, 114, 117, 101]
    · rw [if_pos ⟨k4, h1⟩]
      refine FCon.intro PM _ Tryz.func81 (by kernel_rfl) rfl _ Tryz.ntmps81 rfl [] (by decide +kernel) (by simp) (by simp) rfl (by first | rfl | simp only [go_sem]) ?_
      (have hWf := WFx.mk (ai @k4 <| ai @h1 <| ai @t_true <| @t_false); repeat' (first | refine zS ?_ | exact zE | with_reducible apply And.intro | with_reducible exact zB0 | with_reducible refine zB fun hb => ?_ | exact zC | refine zT ?_ | fail))
    · have g1 : (a.s.toList == [116, 114, 117, 101]) = false := by simpa using h1
      rw [if_neg (fun q => h1 q.2)]
      by_cases h2 : a.s.toList = [102, 97, 108, 115, 101]
      · rw [if_pos ⟨k4, h2⟩]
        refine FCon.intro PM _ Tryz.func81 (by kernel_rfl) rfl _ Tryz.ntmps81 rfl [] (by decide +kernel) (by simp) (by simp) rfl (by first | rfl | simp only [go_sem]) ?_
        (have hWf := WFx.mk (ai @k4 <| ai @h2 <| ai @t_true <| @t_false); repeat' (first | refine zS ?_ | exact zE | with_reducible apply And.intro | with_reducible exact zB0 | with_reducible refine zB fun hb => ?_ | exact zC | refine zT ?_ | fail))
        exact absurd hb (by decide)
      · have g2 : (a.s.toList == [102, 97, 108, 115, 101]) = false := by simpa using h2
        rw [if_neg (fun q => h2 q.2)]
        refine FCon.intro PM _ Tryz.func81 (by kernel_rfl) rfl _ Tryz.ntmps81 rfl [] (by decide +kernel) (by simp) (by simp) rfl (by first | rfl | simp only [go_sem]) ?_
        (have hWf := WFx.mk (ai @k4 <| ai @g1 <| ai @g2 <| ai @t_true <| @t_false); repeat' (first | refine zS ?_ | exact zE | with_reducible apply And.intro | with_reducible exact zB0 | with_reducible refine zB fun hb => ?_ | exact zC | refine zT ?_ | fail))
  · have f4 := kindF k4
    rw [if_neg (fun q => k4 q.1), if_neg (fun q => k4 q.1)]
    refine FCon.intro PM _ Tryz.func81 (by kernel_rfl) rfl _ Tryz.ntmps81 rfl [] (by decide +kernel) (by simp) (by simp) rfl (by first | rfl | simp only [go_sem]) ?_
    (have hWf := WFx.mk @f4; repeat' (first | refine zS ?_ | exact zE | with_reducible apply And.intro | with_reducible exact zB0 | with_reducible refine zB fun hb => ?_ | exact zC | refine zT ?_ | fail))
theorem FCon.ofInt2 {f : FuncId} {fn : Func} {c : Code} (hf : Tryz.prog.funcs[f]? = some fn) (hname : (fn.name == "runtime.NumGoroutine") = false) (hb : fn.body = some c) (m n : Int) {v : Value} {r : D} (hr : ∀ (g : Gh) (w : World), RNs g w r v)
    (h : ∀ w, Calls Tryz.prog f #[.int .i64 m, .int .i64 n] w fun e w' => e = .returned v ∧ w = w') : FCon Tryz.prog f [.s (.int .i64 m), .s (.int .i64 n)] (fun x _ => x = r) := by
  refine ⟨fun vs w => ?_, fun w g vs hS hu hl' hv => ?_⟩
  · have hname' : ¬ fn.name = "runtime.NumGoroutine" := by simpa using hname
    have hbn : ¬ fn.body = none := by rw [hb]; simp
    simp [callFunc, hf, hname', hbn]
  · match vs, hl', hv with
    | [x, y], _, hv =>
      have e1 := Rep.s_inv (show Rep g.S g.up w _ (.s (.int .i64 m)) x from hv 0 _ x rfl rfl)
      have e2 := Rep.s_inv (show Rep g.S g.up w _ (.s (.int .i64 n)) y from hv 1 _ y rfl rfl)
      subst e1 e2
      refine (h w).mono ?_
      rintro e w' ⟨rfl, rfl⟩
      exact ⟨v, ⟨fun _ => none, fun _ => 0, fun _ => none, g.S⟩, r, [], rfl, Below.refl _ _, fun b _ _ => rfl, fun _ q => q, fun _ _ q => .inl q, hS, fun b p q => (by cases q), rfl, hr _ _, fun j d u q => (by simp at q)⟩
theorem RNs.ib {g : Gh} {w : World} {n : Int} {b : Bool} : RNs g w (.tup [.s (.int .i64 n), .s (.bool b)]) (.tuple #[.int .i64 n, .bool b]) := ⟨[.int .i64 n, .bool b], rfl, rfl, fun j x u hx hu => by
    match j, hx, hu with
    | 0, hx, hu => simp at hx hu; subst hx hu; exact Rep.s rfl
    | 1, hx, hu => simp at hx hu; subst hx hu; exact Rep.s rfl⟩
theorem RNs.i {g : Gh} {w : World} {n : Int} : RNs g w (.s (.int .i64 n)) (.int .i64 n) := Rep.s rfl
def divQ (m n : Int) : D := if wrap63 n == 0 then .tup [.s (.int .i64 0), .s (.bool false)] else .tup [.s (.int .i64 (wrap63 ((wrap63 m).tdiv (wrap63 n)))), .s (.bool true)]
def remQ (m n : Int) : D := if wrap63 n == 0 then .tup [.s (.int .i64 0), .s (.bool false)] else .tup [.s (.int .i64 ((wrap63 m).tmod (wrap63 n))), .s (.bool true)]
theorem c_iAddW (m n : Int) : FCon Tryz.prog 223 [.s (.int .i64 m), .s (.int .i64 n)] (fun r _ => r = .s (.int .i64 (wrap63 (m + n)))) := FCon.ofInt2 Tryz.func223 rfl rfl m n (fun _ _ => RNs.i) fun w => impl_AddW w m n
theorem c_iSubW (m n : Int) : FCon Tryz.prog 224 [.s (.int .i64 m), .s (.int .i64 n)] (fun r _ => r = .s (.int .i64 (wrap63 (m - n)))) := FCon.ofInt2 Tryz.func224 rfl rfl m n (fun _ _ => RNs.i) fun w => impl_SubW w m n
theorem c_iMulW (m n : Int) : FCon Tryz.prog 225 [.s (.int .i64 m), .s (.int .i64 n)] (fun r _ => r = .s (.int .i64 (wrap63 (m * n)))) := FCon.ofInt2 Tryz.func225 rfl rfl m n (fun _ _ => RNs.i) fun w => impl_MulW w m n
theorem c_sAddW (m n : Int) : FCon Tryz.prog 212 [.s (.int .i64 m), .s (.int .i64 n)] (fun r _ => r = .s (.int .i64 (wrap63 (m + n)))) := FCon.ofInt2 Tryz.func212 rfl rfl m n (fun _ _ => RNs.i) fun w => spec_AddW w m n
theorem c_sSubW (m n : Int) : FCon Tryz.prog 213 [.s (.int .i64 m), .s (.int .i64 n)] (fun r _ => r = .s (.int .i64 (wrap63 (m - n)))) := FCon.ofInt2 Tryz.func213 rfl rfl m n (fun _ _ => RNs.i) fun w => spec_SubW w m n
theorem c_sMulW (m n : Int) : FCon Tryz.prog 214 [.s (.int .i64 m), .s (.int .i64 n)] (fun r _ => r = .s (.int .i64 (wrap63 (m * n)))) := FCon.ofInt2 Tryz.func214 rfl rfl m n (fun _ _ => RNs.i) fun w => spec_MulW w m n
theorem c_iDivW (m n : Int) : FCon Tryz.prog 226 [.s (.int .i64 m), .s (.int .i64 n)] (fun r _ => r = divQ m n) := by
  unfold divQ
  cases h : (wrap63 n == 0) with
  | true => exact FCon.ofInt2 Tryz.func226 rfl rfl m n (fun _ _ => RNs.ib) fun w => impl_DivW_zero w m n h
  | false => exact FCon.ofInt2 Tryz.func226 rfl rfl m n (fun _ _ => RNs.ib) fun w => impl_DivW w m n h
theorem c_sDivW (m n : Int) : FCon Tryz.prog 215 [.s (.int .i64 m), .s (.int .i64 n)] (fun r _ => r = divQ m n) := by
  unfold divQ
  cases h : (wrap63 n == 0) with
  | true => exact FCon.ofInt2 Tryz.func215 rfl rfl m n (fun _ _ => RNs.ib) fun w => spec_DivW_zero w m n h
  | false => exact FCon.ofInt2 Tryz.func215 rfl rfl m n (fun _ _ => RNs.ib) fun w => spec_DivW w m n h
theorem c_iRemW (m n : Int) : FCon Tryz.prog 227 [.s (.int .i64 m), .s (.int .i64 n)] (fun r _ => r = remQ m n) := by
  unfold remQ
  cases h : (wrap63 n == 0) with
  | true => exact FCon.ofInt2 Tryz.func227 rfl rfl m n (fun _ _ => RNs.ib) fun w => impl_RemW_zero w m n h
  | false => exact FCon.ofInt2 Tryz.func227 rfl rfl m n (fun _ _ => RNs.ib) fun w => impl_RemW w m n h
theorem c_sRemW (m n : Int) : FCon Tryz.prog 216 [.s (.int .i64 m), .s (.int .i64 n)] (fun r _ => r = remQ m n) := by
  unfold remQ
  cases h : (wrap63 n == 0) with
  | true => exact FCon.ofInt2 Tryz.func216 rfl rfl m n (fun _ _ => RNs.ib) fun w => spec_RemW_zero w m n h
  | false => exact FCon.ofInt2 Tryz.func216 rfl rfl m n (fun _ _ => RNs.ib) fun w => spec_RemW w m n h
end Go.Proofs.YtgcdbmcoendcdaaGreat
