import Derived.Test.YtgcdbmcoendcdaaGreatHFoldX
import Derived.Test.YtgcdbmcoendcdaaGreatHaB
import Derived.Test.YtgcdbmcoendcdaaGreatPgB
/- The law of Fold, over the second engine. -/
set_option maxRecDepth 100000
set_option maxHeartbeats 8000000
namespace Go.Proofs.YtgcdbmcoendcdaaGreat
set_option linter.unusedVariables false
set_option linter.unusedSimpArgs false
open Go.RowKit Arb
theorem all_fold {P : EI → Prop} (hl : ∀ a x y b, foldP a x y = some b → P b) : ∀ t : ET, All (fun a _ => P a) t → All (fun a _ => P a) (foldE t) := fun t => by
  induction t using Arb.ind with
  | h a l ih =>
    intro h
    have hk : ∀ x ∈ l.map foldE, All (fun a _ => P a) x := fun x hx => by
      obtain ⟨y, hy, rfl⟩ := List.mem_map.1 hx
      exact ih y hy (h.kid y hy)
    show All _ (foldG id id (.mk a l))
    rw [foldG_mk]
    refine foldR_cases (P := All (fun a _ => P a)) a (l.map foldE) ?_ ?_ ?_
    · exact All.mk h.root hk
    · intro x y b _ _ hb
      exact All.mk (hl _ _ _ _ hb) (by simp)
    · intro x hx _
      exact hk x hx
def smA (a : EI) : Prop := a.s.size ≤ 1048576 ∧ smS MPat.sm a.pats
theorem foldP_pats {a x y b : EI} (h : foldP a x y = some b) : b.pats = [] := by
  unfold foldP at h
  split at h
  · split at h
    · injection h with h; subst h; rfl
    · cases h
  · split at h
    · split at h
      · injection h with h; subst h; rfl
      · split at h
        · injection h with h; subst h; rfl
        · cases h
      · cases h
    · cases h
theorem lay_all {P : EI → Prop} {t : ET} (h : All (fun a _ => P a) t) {n : MNode} (hn : n ∈ Arb.lay EI.node 0 t) : ∃ a l, n = a.node l ∧ P a ∧ l.length ≤ t.size := by
  obtain ⟨j, hj, rfl⟩ := List.getElem_of_mem hn
  rw [Arb.lay_len] at hj
  obtain ⟨a, l, hA, hO⟩ := at_of t 0 (At.zero (f := EI.node) t) h j (Nat.zero_le _) (by omega)
  have := (List.getElem?_eq_some_iff.1 hA.root).2
  refine ⟨a, _, this, hO.root, ?_⟩
  have h1 := hA.bd
  rw [Arb.lay_len, size_mk] at h1
  have := sizeL_len l
  rw [idxs_len]; omega
theorem foldPr_sm {p : MProgram} (hs : p.sm) (hc : p.cnt ≤ 1000000000) {t : ET} (ht : p.nodes = Arb.lay EI.node 0 t) (ok : okT t) (hz : t.size ≤ 600) : (foldPr p t).sm ∧ (foldPr p t).cnt ≤ 100000000000000 := by
  have hA := At.zero (f := EI.node) t
  rw [← ht] at hA
  have h1 : All (fun a _ => smA a) t := all_of t 0 hA fun j x l hj => by
    have := hs.2.2 _ (List.mem_of_getElem? hj.root)
    exact ⟨this.1, this.2.2⟩
  have h2 : All (fun a _ => smA a) (foldE t) := all_fold (fun a x y b h => ⟨(fdN_leaf (r := []) (l := []) h).1, by rw [foldP_pats h]; exact ⟨by simp, by simp⟩⟩) t h1
  have h3 := okT_fold t ok
  have hfz := foldE_size t
  have hln : (Arb.lay EI.node 0 (foldE t)).length ≤ 600 := by rw [Arb.lay_len]; omega
  have hnode : ∀ n ∈ Arb.lay EI.node 0 (foldE t), n.sm ∧ n.cnt ≤ 10000000000 := fun n hn => by
    obtain ⟨a, l, rfl, ⟨s1, s2⟩, s3⟩ := lay_all h2 hn
    obtain ⟨a', l', e, hq, -⟩ := lay_all (P := fun a => ∀ q ∈ a.pats, patM q.nodes = true) (t := foldE t) (by
      clear h1 h2 hA hn hln
      have : ∀ u : ET, okT u → All (fun a _ => ∀ q ∈ a.pats, patM q.nodes = true) u := fun u => by
        induction u using Arb.ind with
        | h a l ih => intro h; exact .mk h.root.pm fun x hx => ih x hx (h.kid x hx)
      exact this _ h3) hn
    obtain ⟨rfl, -⟩ := EI.node_inj _ _ _ _ e
    refine ⟨⟨s1, ⟨by show l.length ≤ _; omega, fun _ _ => trivial⟩, s2⟩, ?_⟩
    rw [MNode.cnt_eq]
    have c1 : cnts (fun _ : Int => 1) l = 1 * l.length := cnts_const (fun _ => rfl) _
    have c2 : cnts MPat.cnt a.pats ≤ a.pats.length * 4000 := cnts_bound _ fun q hq' => by
      have hp := hq q hq'
      have h1 := patM_len hp
      have h2 := patM_kids hp
      rw [MPat.cnt_eq]
      have : cnts DPNode.cnt q.nodes ≤ q.nodes.length * 5 := cnts_bound _ fun x hx => by
        have := h2 x hx
        rw [DPNode.cnt_eq, cnts_const (n := 1) (fun _ => rfl)]; omega
      omega
    have c3 := s2.1
    show 1 + 1 + 1 + 1 + cnts (fun _ : Int => 1) l + cnts MPat.cnt a.pats ≤ _
    omega
  refine ⟨⟨hs.1, by show (Arb.lay EI.node 0 (foldE t)).length ≤ _; omega, fun n hn => (hnode n hn).1⟩, ?_⟩
  rw [MProgram.cnt_eq]
  rw [MProgram.cnt_eq] at hc
  have c4 : cnts MNode.cnt (Arb.lay EI.node 0 (foldE t)) ≤ (Arb.lay EI.node 0 (foldE t)).length * 10000000000 := cnts_bound _ fun n hn => (hnode n hn).2
  show cnts MType.cnt p.types + cnts MNode.cnt (Arb.lay EI.node 0 (foldE t)) ≤ _
  omega
structure FoldAns (p q : MProgram) : Prop where
  impl : FCon Tryz.prog 9 [.ag p.enc] (fun r _ => r = .ag q.own)
  spec : FCon Tryz.prog 7 [.ag p.enc] (fun r _ => r = .ag q.enc)
  sm : q.sm
  cn : q.cnt ≤ 100000000000000
theorem fold_both (p : MProgram) (ho : p.ok) (hs : p.sm) (hc : p.cnt ≤ 1000000000) : ∃ q, FoldAns p q := by
  cases hp : progM p with
  | false => exact ⟨⟨[], []⟩, c_implFold_bad p ho hs hp, c_specFold_bad p ho hs hp, ⟨⟨by simp, by simp⟩, by simp, by simp⟩, by simp [MProgram.cnt, cnts]⟩
  | true =>
    obtain ⟨t, ht, ok, hz, -, -⟩ := tree_of hp
    obtain ⟨h1, h2⟩ := foldPr_sm hs hc ht ok hz
    exact ⟨_, c_implFold_ok p ho hs hp t ht ok hz, c_specFold_ok p ho hs hp t ht ok hz, h1, h2⟩
theorem c_FnExactFold (p : MProgram) (ho : p.ok) : FCon Tryz.prog 3 [.ag p.enc] (fun r _ => r = .s (.bool true)) := by
  by_cases hz : p.tot ≤ 1048576
  · have hs := MProgram.sm_of hz
    have hpc := MProgram.cnt_le p
    obtain ⟨q, hC⟩ := fold_both p ho hs (by omega)
    have tp := c_toProgram p hs
    have ep := c_eqProgram p
    have eq := c_eqProgram q
    have ci := hC.impl
    have cs := hC.spec
    have hqc := hC.cn
    have mp := c_markProgram p hs 1 (by omega) (by omega)
    have mq := c_markProgram q hC.sm 1 (by omega) (by omega)
    have hq := c_heldProgram q hC.sm 1 (by omega) (by omega)
    clear hC
    refine FCon.intro PM _ Tryz.func3 (by kernel_rfl) rfl _ Tryz.ntmps3 rfl [(10, 3, [], [], (lin [] [0, 1, 2]))] (by decide +kernel) (by simp) (by simp) rfl (by first | rfl | simp only [go_sem]) ?_
    (have hWf := WFx.mk (ai @MProgram.enc_eq <| ai @MProgram.own_eq <| ai @MProgram.mark_eq <| ai @marks_len <| ai @pure_tupL <| @pure_agL); repeat' (first | refine zS ?_ | exact zE | with_reducible apply And.intro | ((with_reducible apply q_CallG); refine CallG_mk (d_szProgram p ho 1048576 (by omega) (by omega)) ?_; rintro _ _ ⟨z, rfl, za, zb, zc⟩) | ((with_reducible apply q_CallQ); refine CallQ_mk (d_szProgram p ho 1048576 (by omega) (by omega)) ?_) | refine zK (tp) ?_ | refine zK (cs) ?_ | refine zK (ci) ?_ | refine zK (eq) ?_ | refine zK (ep) ?_ | refine zH mp ?_ | refine zH mq ?_ | refine zK (hq) ?_ | with_reducible exact zB0 | with_reducible refine zB fun hb => ?_ | exact zC | refine zT ?_ | fail))
  · refine FCon.intro PM _ Tryz.func3 (by kernel_rfl) rfl _ Tryz.ntmps3 rfl [(10, 3, [], [], (lin [] [0, 1, 2]))] (by decide +kernel) (by simp) (by simp) rfl (by first | rfl | simp only [go_sem]) ?_
    (have hWf := WFx.mk @MProgram.enc_eq; repeat' (first | refine zS ?_ | exact zE | with_reducible apply And.intro | ((with_reducible apply q_CallG); refine CallG_mk (d_szProgram p ho 1048576 (by omega) (by omega)) ?_; rintro _ _ ⟨z, rfl, za, zb, zc⟩) | ((with_reducible apply q_CallQ); refine CallQ_mk (d_szProgram p ho 1048576 (by omega) (by omega)) ?_) | with_reducible exact zB0 | with_reducible refine zB fun hb => ?_ | exact zC | refine zT ?_ | fail))
    all_goals exact absurd (by have := zc (by omega); omega) hz
end Go.Proofs.YtgcdbmcoendcdaaGreat
