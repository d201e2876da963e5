import Derived.Test.YthkgncddilkmbaaOrdAny
import Derived.Test.YthkgncddilkmbaaPatM
/- inOrder over patterns, over the second engine. -/
namespace Go.Proofs.Ythkgncddilkmbaa
set_option linter.unusedVariables false
set_option linter.unusedSimpArgs false
open Go.RowKit
theorem RepL.inv {S : Nat → Prop} {up : Nat → Option Pos} {W : World} {d : D} {ds : List D} {us : List Value} (h : RepL S up W (d :: ds) us) : ∃ u t, us = u :: t ∧ Rep S up W none d u ∧ RepL S up W ds t := by
  obtain ⟨h1, h2⟩ := h
  match us, h1 with
  | u :: t, h1 => exact ⟨u, t, rfl, h2 0 d u rfl rfl, by simpa using h1, fun j d' u' q1 q2 => h2 (j + 1) d' u' (by simpa using q1) (by simpa using q2)⟩
theorem two_args {P : Nat → D → Value → Prop} {b c : D} {vs : List Value} (hl : vs.length = [b, c].length) (h : ∀ (j : Nat) (x : D) (u : Value), [b, c][j]? = some x → vs[j]? = some u → P j x u) : ∃ v u, vs = [v, u] ∧ P 0 b v ∧ P 1 c u := by
  match vs, hl with
  | [v, u], _ => exact ⟨v, u, rfl, h 0 b v rfl rfl, h 1 c u rfl rfl⟩
theorem SlOf.mapR {α β : Type} {k : Nat} {R : Hp → List Value → α → Prop} {R' : Hp → List Value → β → Prop} {h : Hp} {v : Value} {xs : List α} (f : α → β) (hR : ∀ r x, R h r x → R' h r (f x)) (q : SlOf k R h v xs) : SlOf k R' h v (xs.map f) := by
  obtain ⟨a, c, e, h1, h2, r⟩ := q
  refine ⟨a, c, by simpa using e, by simpa using h1, h2, r.imp (fun z => by simp [z]) ?_⟩
  rintro ⟨b, off, ea, hc⟩
  refine ⟨b, off, ea, fun i hi => ?_⟩
  obtain ⟨r, r1, r2, r3⟩ := hc i (by simpa using hi)
  exact ⟨r, r1, r2, by simpa using hR _ _ r3⟩
theorem intS_of {S : Nat → Prop} {up : Nat → Option Pos} {W : World} {v : Value} {l : List Int} (h : Rep S up W none (.sl 1 (l.map iE)) v) (ho : ∀ x ∈ l, I64 x) : IntS (hp W) v l :=
  Rep.slOf (enc := iE) (fun _ _ => rfl) (by decide) (fun r x hx hr => by
    rw [iE_eq] at hr
    obtain ⟨u0, t0, rfl, h0, hr⟩ := hr.inv
    obtain rfl : t0 = [] := List.eq_nil_of_length_eq_zero (by have := hr.1; simpa using this)
    obtain rfl : u0 = .int .i64 x := Rep.s_inv h0
    exact ⟨rfl, ho x hx⟩) h
theorem kidsAt_of {α : Type} {enc : α → List D} {kids : α → List Int} {k c : Nat} (hk : 0 < k) {S : Nat → Prop} {up : Nat → Option Pos} {W : World} {v : Value} {xs : List α} (hl : ∀ x ∈ xs, (enc x).length = k) (hc : ∀ x ∈ xs, (enc x)[c]? = some (.sl 1 ((kids x).map iE))) (h : Rep S up W none (.sl k (xs.map enc)) v) (ho : ∀ x ∈ xs, ∀ z ∈ kids x, I64 z) : KidsAt k c (hp W) v (xs.map kids) := by
  refine SlOf.mapR (R := fun h r (x : α) => KidR k c h r (kids x)) kids (fun r x q => q) ?_
  refine Rep.slOf (enc := enc) hl hk (fun r x hx hr => ?_) h
  have h1 := hl x hx
  have h2 := hc x hx
  have hlt : c < r.length := by rw [hr.1]; exact (List.getElem?_eq_some_iff.1 h2).1
  exact ⟨by rw [hr.1, h1], r[c], List.getElem?_eq_getElem hlt, intS_of (hr.2 c _ _ h2 (List.getElem?_eq_getElem hlt)) (ho x hx)⟩
theorem pat_kids (w : World) (h : Hp) (hs : Sub h w) (v : Value) (ks : List (List Int)) (hv : KidsAt 4 3 h v ks) (hl : ks.length ≤ 1000000000) (Bd Od : Nat) (hB : w.cell? ⟨Bd, Od, none⟩ = some v) (i : Nat) (hi : i < ks.length) :
    Calls Try.prog 56 #[.int .i64 i, .pointer (some ⟨Bd, Od, none⟩)] w fun e w' => KidQ h w ks[i] e w' := by
  have HV := Lib.hid hv
  obtain ⟨a, c, rfl, hc1, hc2, -⟩ := hv
  unfold maxLen at hc2
  obtain ⟨b, off, rfl, hcell⟩ := HV.out.cell hi
  obtain ⟨v1, hrel, hcs⟩ := hcell i hi
  have c3 := hcs w hs
  have HR := Lib.hid hrel
  clear hcell hcs hrel
  go_enter Try.func56, Try.ntmps56
  go_wp2_with fail
  go_ret
  exact ⟨_, rfl, HR.out, (by repeat (first | with_reducible exact Below.refl _ _ | with_reducible assumption | with_reducible refine Below.setCell ?_ ?_ _ | with_reducible refine Below.alloc ?_ ?_ _ | with_reducible refine Below.drew ?_ | (with_reducible apply below_chain; with_reducible assumption) | exact Nat.le_refl _ | omega | (simp <;> omega)))⟩
theorem ent_of {f : FuncId} {fn : Func} {c : Code} (hf : Try.prog.funcs[f]? = some fn) (hname : (fn.name == "runtime.NumGoroutine") = false) (hb : fn.body = some c) (vs : Array Value) (w : World) : (callFunc f vs).run Try.prog w = .ok (.enter f vs) w := by
  have hname' : ¬ fn.name = "runtime.NumGoroutine" := by simpa using hname
  have hbn : ¬ fn.body = none := by rw [hb]; simp
  simp [callFunc, hf, hname', hbn]
/-- inOrder, by what a captured pointer leads to. -/
theorem c_inOrder (K : FuncId) (hEnt : ∀ vs w, (callFunc K vs).run Try.prog w = .ok (.enter K vs) w) (ks : List (List Int)) (row : List D) (hl : ks.length ≤ 1000000000) (hks : ∀ k ∈ ks, k.length ≤ 1000000000)
    (hK : ∀ (w : World) (S : Nat → Prop) (up : Nat → Option Pos) (v : Value), Rep S up w none (.pt row) v → ∀ w1, Below w.heap.size w w1 → ∀ m (hm : m < ks.length), Calls Try.prog K #[.int .i64 m, v] w1 fun e w' => KidQ (hp w) w1 ks[m] e w') :
    FCon Try.prog 55 [.s (.int .i64 ks.length), .fn K [.pt row]] (fun r _ => r = .s (.bool (orderM ks))) := by
  refine FCon.ofBelow Try.func55 (by kernel_rfl) rfl (Rv := (· = .bool (orderM ks))) (fun v hv => by subst hv; exact ⟨rfl, rfl⟩) rfl fun w S up vs h1 h2 => ?_
  obtain ⟨v, u, rfl, hv, hu⟩ := two_args (P := fun _ b u => RB S up w b u) h1 h2
  obtain rfl : v = .int .i64 ks.length := Rep.s_inv (show Rep S up w none (.s (.int .i64 ks.length)) v from hv)
  cases (show Rep S up w none (.fn K [.pt row]) u from hu) with
  | fn us hus =>
    have hp := hus 0 _ rfl
    have e : ((List.range [D.pt row].length).map us).toArray = #[us 0] := by simp
    rw [e]
    exact (node_inOrder w ks hl (fun k h => hks _ (List.getElem_mem h)) K (us 0) hEnt fun w1 hb m hm => hK w S up _ hp w1 hb m hm).mono fun e w' ⟨q1, q2⟩ => ⟨_, q1, rfl, q2⟩
theorem c_inOrderP (xs : List DPNode) (ho : ∀ x ∈ xs, x.ok) (hl : xs.length ≤ 1000000000) (hks : ∀ x ∈ xs, x.kids.length ≤ 1000000000) :
    FCon Try.prog 55 [.s (.int .i64 xs.length), .fn 56 [.pt [.sl 4 (xs.map DPNode.enc)]]] (fun r _ => r = .s (.bool (orderM (kidsP xs)))) := by
  have hlen : (xs.map DPNode.kids).length = xs.length := List.length_map _
  have := c_inOrder 56 (ent_of Try.func56 rfl rfl) (xs.map DPNode.kids) [.sl 4 (xs.map DPNode.enc)] (by rw [hlen]; exact hl) (fun k h => by obtain ⟨x, hx, rfl⟩ := List.mem_map.1 h; exact hks x hx) fun w S up v hv w1 hb m hm => by
    cases hv with
    | @pt _ _ b off ws hc hr =>
      have c1 := (hc 0 _ rfl).2
      have hk := kidsAt_of (enc := DPNode.enc) (kids := DPNode.kids) (k := 4) (c := 3) (by decide) (fun _ _ => rfl) (fun _ _ => rfl) (hr 0 _ rfl) (fun x hx => (ho x hx).2.2.2)
      exact pat_kids w1 (hp w) ((Sub.self w).below hb) _ _ hk (by rw [hlen]; exact hl) b off (cell_kept hb c1) m hm
  rw [hlen] at this
  exact this
end Go.Proofs.Ythkgncddilkmbaa
