import Derived.Test.YthmedgipfdoneaaProgA
import Derived.Test.YthmedgipfdoneaaOrdNode
/- inOrder over the nodes of a program, over the engine. -/
namespace Go.Proofs.Ythmedgipfdoneaa
set_option linter.unusedVariables false
set_option linter.unusedSimpArgs false
open Go.RowKit
theorem two_argsN {P : A → Value → Prop} {b c : A} {vs : List Value} (hl : vs.length = [b, c].length) (h : ∀ (j : Nat) (x : A) (u : Value), [b, c][j]? = some x → vs[j]? = some u → P x u) : ∃ v u, vs = [v, u] ∧ P b v ∧ P c u := by
  match vs, hl with
  | [v, u], _ => exact ⟨v, u, rfl, h 0 b v rfl rfl, h 1 c u rfl rfl⟩
theorem SlOf.mapR {α β : Type} {k : Nat} {R : Hp → List Value → α → Prop} {R' : Hp → List Value → β → Prop} {h : Hp} {v : Value} {xs : List α} (f : α → β) (hR : ∀ r x, R h r x → R' h r (f x)) (q : SlOf k R h v xs) : SlOf k R' h v (xs.map f) := by
  obtain ⟨a, c, e, h1, h2, r⟩ := q
  refine ⟨a, c, by simpa using e, by simpa using h1, h2, r.imp (fun z => by simp [z]) ?_⟩
  rintro ⟨b, off, ea, hc⟩
  refine ⟨b, off, ea, fun i hi => ?_⟩
  obtain ⟨r, r1, r2, r3⟩ := hc i (by simpa using hi)
  exact ⟨r, r1, r2, by simpa using hR _ _ r3⟩
theorem kidsAt_of {S : Seal} {W : World} {v : Value} {xs : List MNode} (h : Rep S W (.sl 6 (xs.map MNode.enc)) v) (ho : ∀ x ∈ xs, x.ok) : KidsAt (hp W) v (kidsN xs) := by
  refine SlOf.mapR (R := fun h r (x : MNode) => KidR h r x.kids) (fun n : MNode => n.kids) (fun r x q => q) ?_
  refine Rep.slOf (enc := MNode.enc) (fun _ _ => rfl) (by decide) (fun r x hx hr => ?_) h
  obtain ⟨o1, o2, o3, o4, o5, o6⟩ := ho x hx
  rw [MNode.enc_eq] at hr
  obtain ⟨u0, t0, rfl, h0, hr⟩ := hr.inv
  obtain ⟨u1, t1, rfl, h1, hr⟩ := hr.inv
  obtain ⟨u2, t2, rfl, h2, hr⟩ := hr.inv
  obtain ⟨u3, t3, rfl, h3, hr⟩ := hr.inv
  obtain ⟨u4, t4, rfl, h4, hr⟩ := hr.inv
  obtain ⟨u5, t5, rfl, h5, hr⟩ := hr.inv
  have : t5 = [] := List.eq_nil_of_length_eq_zero (by have := hr.1; simpa using this)
  subst this
  exact ⟨u0, u1, u2, u3, u4, u5, rfl, intS_of h4 o5⟩
theorem c_inOrder (p : MProgram) (ho : ∀ x ∈ p.nodes, x.ok) (hl : p.nodes.length ≤ 1000000000) (hks : ∀ x ∈ p.nodes, x.kids.length ≤ 1000000000) :
    FCon Try.prog 81 [.d (.s (.int .i64 p.nodes.length)), .d (.fn 82 [.pt p.enc])] (· = Tbool (orderM (kidsN p.nodes))) := by
  refine FCon.ofBelow Try.func81 (by kernel_rfl) rfl (Rv := (· = .bool (orderM (kidsN p.nodes)))) (fun v hv => by subst hv; exact ⟨rfl, rfl⟩) fun w S vs h1 h2 => ?_
  obtain ⟨v, u, rfl, hv, hu⟩ := two_argsN (P := fun b u => RA S w b u) h1 h2
  obtain rfl : v = .int .i64 p.nodes.length := Rep.s_inv hv
  cases (show Rep S w (.fn 82 [.pt p.enc]) u from hu) with
  | fn us hus =>
    have hp := hus 0 _ rfl
    generalize hu0 : us 0 = u0 at hp
    cases hp with
    | @pt _ b off ws hc hr =>
      have c1 := (hc 1 _ rfl).2
      have hk := kidsAt_of (hr 1 _ rfl) ho
      have hlen : (kidsN p.nodes).length = p.nodes.length := by simp
      have := node_inOrder w _ (kidsN p.nodes) hk (by rw [hlen]; exact hl) (fun k h => by simp only [List.getElem_map]; exact hks _ (List.getElem_mem _)) b off c1
      rw [hlen] at this
      have e : ((List.range [D.pt p.enc].length).map us).toArray = #[.pointer (some ⟨b, off, none⟩)] := by simp [hu0]
      rw [e]
      exact this.mono fun e w' ⟨q1, q2⟩ => ⟨_, q1, rfl, q2⟩
end Go.Proofs.Ythmedgipfdoneaa
