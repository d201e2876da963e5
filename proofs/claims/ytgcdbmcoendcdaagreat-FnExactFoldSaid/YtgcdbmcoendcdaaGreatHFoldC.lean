import Derived.Test.YtgcdbmcoendcdaaGreatHFoldR
import Derived.Test.YtgcdbmcoendcdaaGreatHFlat
import Derived.Test.YtgcdbmcoendcdaaGreatPoB
/- Fold of the program, over the second engine. -/
set_option maxRecDepth 100000
set_option maxHeartbeats 4000000
namespace Go.Proofs.YtgcdbmcoendcdaaGreat
set_option linter.unusedVariables false
set_option linter.unusedSimpArgs false
open Go.RowKit Arb
theorem pats_okF : ∀ t : ET, okT t → t.size ≤ 1000000 → All (fun a _ => patsB a.pats) t := fun t => by
  induction t using Arb.ind with
  | h a l ih =>
    intro ok hz
    refine .mk ⟨?_, fun q hq => ?_⟩ fun t ht => ih t ht (ok.kid t ht) (by have := size_lt (a := a) ht; omega)
    · have hsl := sizeL_len l
      rw [size_mk] at hz
      rcases ok.root.p0 with k | k
      · obtain ⟨x, r, rfl, q⟩ := mat_of ok.root.v k
        rw [q]; rw [List.length_cons] at hsl; omega
      · rw [k]; exact Nat.zero_le _
    · have := patM_len (ok.root.pm q hq)
      exact ⟨by omega, fun x hx => by have := patM_kids (ok.root.pm q hq) x hx; omega⟩
theorem all_and {P Q : EI → List ET → Prop} : ∀ t : ET, All P t → All Q t → All (fun a l => P a l ∧ Q a l) t := fun t => by
  induction t using Arb.ind with
  | h a l ih => intro h1 h2; exact .mk ⟨h1.root, h2.root⟩ fun x hx => ih x hx (h1.kid x hx) (h2.kid x hx)
theorem fdN_of {p : MProgram} (hs : p.sm) {t : ET} (ht : p.nodes = Arb.lay EI.node 0 t) (ok : okT t) (hz : t.size ≤ 600) : All fdN t := by
  have hA := At.zero (f := EI.node) t
  rw [← ht] at hA
  exact all_and t (all_of t 0 hA fun j x l hj => (hs.2.2 _ (List.mem_of_getElem? hj.root)).1) (pats_okF t ok (by omega))
theorem typesB_of {p : MProgram} (hs : p.sm) : typesB p.types := ⟨hs.1.1, fun t ht => ⟨(hs.1.2 t ht).2.1, fun c hc => ((hs.1.2 t ht).2.2 c hc).2.1⟩⟩
def foldPr (p : MProgram) (t : ET) : MProgram := ⟨p.types, Arb.lay EI.node 0 (foldE t)⟩
theorem frA_exF (t : ET) : frA (exO t) = exE t := by
  obtain ⟨a, l⟩ := t
  have := ex_frz (.mk a l)
  rw [exO_mk] at this ⊢
  exact this
theorem c_implFold_ok (p : MProgram) (ho : p.ok) (hs : p.sm) (hp : progM p = true) (t : ET) (ht : p.nodes = Arb.lay EI.node 0 t) (ok : okT t) (hz : t.size ≤ 600) : FCon Tryz.prog 9 [.ag p.enc] (fun r _ => r = .ag (foldPr p t).own) := by
  have hc := c_implProgramOk p ho hs
  rw [hp, MProgram.enc_eq] at hc
  have hA := At.zero (f := EI.node) t
  rw [← ht] at hA
  have hg := c_grow p.nodes (by have := congrArg List.length ht; rw [Arb.lay_len] at this; omega) t 0 hA (pats_okF t ok (by omega))
  have hg : FCon Tryz.prog 31 [.sl 6 (p.nodes.map MNode.enc), .s (.int .i64 0)] (fun r _ => r = exO t) := hg
  have hr := c_rewrite t ok (fdN_of hs ht ok hz) (by omega)
  have hfz := foldE_size t
  have htb := typesB_of hs
  have hpo := c_programOf p.types htb (foldE t) (pats_okF _ (okT_fold t ok) (by omega)) (by omega)
  have hpr : (foldPr p t).own = [.osl 63 3 (p.types.map MType.own), .osl 55 6 ((Arb.lay EI.node 0 (foldE t)).map MNode.own)] := rfl
  rw [hpr, MProgram.enc_eq]
  obtain ⟨a, l⟩ := t
  obtain ⟨d, r, hd⟩ : ∃ d r, foldE (.mk a l) = .mk d r := ⟨_, _, Arb.eta _⟩
  rw [hd] at hr hpo ⊢
  rw [exO_mk] at hg hr
  rw [exE_mk] at hr hpo
  refine FCon.intro PM _ Tryz.func9 (by kernel_rfl) rfl _ Tryz.ntmps9 rfl [(3, 6, [4, 5], [(4, 0), (4, 1), (5, 0), (5, 1)], (lin [4, 5] [0, 1, 2, 3, 4, 5]))] (by decide +kernel) (by simp) (by simp) rfl (by first | rfl | simp only [go_sem]) ?_
  (have hWf := f0; repeat' (first | refine zS ?_ | exact zE | with_reducible apply And.intro | refine zK (hc) ?_ | ((with_reducible apply q_CallE); refine CallE_mk (FCon.noout hg) ?_) | ((with_reducible apply q_CallG); refine zG (hg) ?_) | ((with_reducible apply q_CallE); refine CallE_mk (hr) ?_) | ((with_reducible apply q_CallG); refine CallG_mk (hr) ?_; rintro _ _ ⟨rfl, rfl⟩) | refine zK (hpo) ?_ | with_reducible exact zB0 | with_reducible refine zB fun hb => ?_ | exact zC | refine zT ?_ | fail))
theorem FCon.agN2 {P : Program} {f : FuncId} {args : List D} {e1 e2 k1 k2 : Nat} (h : FCon P f args (fun r _ => r = .ag [.nil, .nil])) : FCon P f args (fun r _ => r = .ag [.osl e1 k1 [], .osl e2 k2 []]) := h.wk fun r o e => by
  subst e
  refine ⟨_, rfl, fun g w v q => ?_⟩
  obtain ⟨us, rfl, hl, hc⟩ := q
  refine ⟨us, rfl, by simpa using hl, fun l x u hx hu => ?_⟩
  match l, hx with
  | 0, hx => exact (by simpa using hx) ▸ Rep.nil_osl e1 k1 (hc 0 _ u rfl hu)
  | 1, hx => exact (by simpa using hx) ▸ Rep.nil_osl e2 k2 (hc 1 _ u rfl hu)
theorem c_implFold_bad (p : MProgram) (ho : p.ok) (hs : p.sm) (hp : progM p = false) : FCon Tryz.prog 9 [.ag p.enc] (fun r _ => r = .ag (MProgram.mk [] []).own) := by
  have hc := c_implProgramOk p ho hs
  rw [hp, MProgram.enc_eq] at hc
  rw [MProgram.enc_eq]
  refine FCon.agN2 ?_
  refine FCon.intro PM _ Tryz.func9 (by kernel_rfl) rfl _ Tryz.ntmps9 rfl [(3, 6, [4, 5], [(4, 0), (4, 1), (5, 0), (5, 1)], (lin [4, 5] [0, 1, 2, 3, 4, 5]))] (by decide +kernel) (by simp) (by simp) rfl (by first | rfl | simp only [go_sem]) ?_
  (have hWf := f0; repeat' (first | refine zS ?_ | exact zE | with_reducible apply And.intro | refine zK (hc) ?_ | with_reducible exact zB0 | with_reducible refine zB fun hb => ?_ | exact zC | refine zT ?_ | fail))
end Go.Proofs.YtgcdbmcoendcdaaGreat
