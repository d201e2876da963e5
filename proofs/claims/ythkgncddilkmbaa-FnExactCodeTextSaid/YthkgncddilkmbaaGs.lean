import Derived.Test.YthkgncddilkmbaaGr
import Derived.Deep.LoopGhost
/- The second engine, nineteenth part: code, loops, entry and return. -/
namespace Go.Proofs.Ythkgncddilkmbaa
set_option linter.unusedVariables false
set_option linter.unusedSimpArgs false
open Go.RowKit
/-- how a region that draws its order is walked: its drawn part, the effects, what floats past which, the order. -/
abbrev Plan := Nat × List Nat × List (Nat × Nat) × Tr
def flF : List (Nat × Nat) → Nat → Nat → Bool
  | [], _, _ => false
  | (a, b) :: r, i, j => (i == a && j == b) || flF r i j
def plF : List (Nat × Plan) → Nat → Option Plan
  | [], _ => none
  | (i, p) :: r, n => if n = i then some p else plF r n
def chkC (pl : List (Nat × Plan)) (N : Nat) : Code → Bool
  | .region id ops dr => chk N ops && (!dr || match plF pl id with
    | some (m, fx, fl, π) => drawQB ops m fx (flF fl) π
    | none => true)
  | .seq c d => chkC pl N c && chkC pl N d
  | .cond _ c d => chkC pl N c && chkC pl N d
  | .block _ c => chkC pl N c
  | .loop c => chkC pl N c
  | _ => true
/-- from every state that the frame stands for, the code ends as K says. -/
def AC (M : Md) (N : Nat) (pl : List (Nat × Plan)) (c : Code) (K : Exit → St → Prop) (σ : St) : Prop :=
  chkC pl N c = true → ∀ (x : Cx) (g : Gh) (a : Act) (w : World) (Q : Exit → Act → World → Prop), x.P = M.P → x.N = N → Rel x g σ a w → (∀ e σ' g' a' w', Rel x g' σ' a' w' → K e σ' → Q e a' w') → c.wp M.P Q a w
/-- a loop that is reached. -/
def ACL (M : Md) (N : Nat) (pl : List (Nat × Plan)) (c : Code) (K : Exit → St → Prop) (σ : St) : Prop := AC M N pl (.loop c) K σ
def thenK (K' : St → Prop) (K : Exit → St → Prop) : Exit → St → Prop
  | .normal, σ => K' σ
  | e, σ => K e σ
def blockK (id : Nat) (K : Exit → St → Prop) : Exit → St → Prop
  | .exit id', σ => if id' = id then K .normal σ else K (.exit id') σ
  | e, σ => K e σ
/-- a branch. -/
def condV (y : D) (A B : Prop) : Prop := match y with
  | .s (.bool t) => (t = true → A) ∧ (t = false → B)
  | _ => False
section
variable {M : Md} {N : Nat} {pl : List (Nat × Plan)} {K : Exit → St → Prop} {σ : St}
theorem Rel.drew {x : Cx} {g : Gh} {a : Act} {w : World} (h : Rel x g σ a w) : Rel x g σ a w.drew := by
  have ev : Ev (fun _ => True) (fun p => p) pAll pAll g g w w.drew := ⟨⟨fun b hb => ⟨hb, rfl⟩, fun b p hb _ => ⟨hb, rfl⟩, fun b p o _ _ => ⟨trivial, rfl⟩⟩, fun i _ => ⟨rfl, rfl⟩, fun i _ => ⟨rfl, trivial, rfl⟩⟩
  have := h.ev ev ((Below.refl _ _).drew) (fun b _ _ => rfl) (fun b _ hs => .inl hs) h.new h.own
  rwa [sc_all] at this
theorem AC_drawQ {id : Nat} {l : List Oper} (m : Nat) (fx : List Nat) (fl : Nat → Nat → Bool) (π : Tr) (hB : drawQB l.toArray m fx fl π = true) (hc : chk N l.toArray = true)
    (h : aqsN M l.toArray fl (aops M l.toArray (K .normal) (l.drop m)) π [] σ) : ∀ (x : Cx) (g : Gh) (a : Act) (w : World) (Q : Exit → Act → World → Prop), x.P = M.P → x.N = N → Rel x g σ a w → (∀ e σ' g' a' w', Rel x g' σ' a' w' → K e σ' → Q e a' w') → (Code.region id l.toArray true).wp M.P Q a w := by
  intro x g a w Q hx hN hr hQ
  unfold drawQB at hB
  simp only [Bool.and_eq_true, decide_eq_true_eq, beq_iff_eq, Bool.not_eq_true'] at hB
  obtain ⟨⟨⟨⟨⟨⟨b0, bl⟩, bn⟩, b1⟩, b2⟩, b3⟩, b4⟩ := hB
  have hget : ∀ j : Nat, l.toArray[j]? = l[j]? := fun j => by simp
  have hsz : l.toArray.size = l.length := by simp
  have hb : ∀ i o, l.toArray[i]? = some o → ∀ e ∈ o.after, Region.binds .any e = true → e.on < i := fun i o ho e he hbd => by
    have hi := (Array.getElem?_eq_some_iff.1 ho).1
    have := all_range b2 hi
    simp only [ho] at this
    have := Array.all_eq_true'.1 this e he
    simpa [hbd] using this
  have htl : ∀ j, m ≤ j → j < l.toArray.size → ∀ i, i < m → ancB l.toArray j l.toArray.size i = true := fun j hj hjs i hi => by
    have := all_range b3 hjs
    simp only [Bool.or_eq_true, decide_eq_true_eq, Bool.and_eq_true] at this
    rcases this with q | q
    · omega
    · exact all_range q.1 hi
  have htc : ∀ j, m < j → j < l.toArray.size → bnd l.toArray j (j - 1) = true := fun j hj hjs => by
    have := all_range b3 hjs
    simp only [Bool.or_eq_true, decide_eq_true_eq, Bool.and_eq_true, beq_iff_eq] at this
    rcases this with q | ⟨-, q | q⟩
    · omega
    · omega
    · exact q
  obtain ⟨τ, Ls, hτ, h1, -, h2, -⟩ := walkE_of (M := M) rfl (N := N) hc b1 π [] [] _ [] _ σ b4 (fun p hp => by cases hp) h bn
  have hA := (aAnyE_walk (P := M.P) (N := N) htl π [] [] _ Ls σ b4 h2 (by simp) (fun k o hk hl => by
    rw [Array.getD_eq_getD_getElem?] at hl
    rcases Nat.lt_or_ge k (Array.replicate l.toArray.size false).size with q | q
    · rw [Array.getElem?_eq_getElem q] at hl; simp at hl
    · rw [Array.getElem?_eq_none q] at hl; simp at hl) h1).1 rfl
  refine wp_region_any M.mix ?_
  have hfin := wpAny_of_aAnyE (K := fun σ' => σ' = τ) (Q := Q) (n := (l.drop m).length) hx hN b0 (fun σ' g' a' w' listed hs hl1 hl2 hr' hK' => by
    subst hK'
    have hK' := hτ
    refine wpAny_tail hb (l.drop m) m listed a' w' (by rw [hsz] at b0 ⊢; simp; omega) (fun j hj => by rw [hget]; simp) (fun j hj hjs => htc j hj hjs) hs hl1 hl2 ?_
    subst hN
    rw [← hx]
    exact aops_sound hx hc (fun σ' g' a' w' hr' hK => hQ _ _ _ _ _ hr' hK) _ (fun o ho d hd => by
      obtain ⟨j, hj⟩ := List.mem_iff_getElem?.1 ho
      rw [List.getElem?_drop] at hj
      exact chk_spec hc (j := m + j) (o := o) (by rw [hget]; exact hj) hd) _ _ _ _ hr' hK') π.len (Array.replicate l.toArray.size false) Ls σ g a w.drew (by simp) (fun j hj hjs => by simp at hjs ⊢; simp [hjs]) hr.drew hA
  have e : (l.drop m).length + π.len = l.toArray.size := by rw [bl]; simp at b0 ⊢; omega
  rw [e] at hfin
  exact hfin
/-- one step: the code up to the next piece. -/
def stp (M : Md) (N : Nat) (pl : List (Nat × Plan)) : Code → (Exit → St → Prop) → St → Prop
  | .skip, K, σ => K .normal σ
  | .exit id, K, σ => K (.exit id) σ
  | .ret, K, σ => K .ret σ
  | .seq c d, K, σ => stp M N pl c (thenK (AC M N pl d K) K) σ
  | .block id c, K, σ => stp M N pl c (blockK id K) σ
  | .cond z c d, K, σ => condV (ev σ z) (AC M N pl c K σ) (AC M N pl d K σ)
  | .region id ops dr, K, σ => match dr with
    | false => aops (M.at id) ops (K .normal) ops.toList σ
    | true => match plF pl id with
      | some (m, fx, fl, π) => aqsN (M.at id) ops (flF fl) (aops (M.at id) ops (K .normal) (ops.toList.drop m)) π [] σ
      | none => False
  | .loop c, K, σ => ACL M N pl c K σ
  | _, _, _ => False
theorem stp_ok : ∀ (c : Code) (K : Exit → St → Prop) (σ : St), stp M N pl c K σ → AC M N pl c K σ
  | .skip, K, σ, h => fun _ x g a w Q _ _ hr hQ => wp_skip (hQ _ _ _ _ _ hr h)
  | .exit id, K, σ, h => fun _ x g a w Q _ _ hr hQ => wp_exit (hQ _ _ _ _ _ hr h)
  | .ret, K, σ, h => fun _ x g a w Q _ _ hr hQ => wp_ret (hQ _ _ _ _ _ hr h)
  | .seq c d, K, σ, h => by
    intro hck x g a w Q hx hN hr hQ
    simp only [chkC, Bool.and_eq_true] at hck
    refine wp_seq (stp_ok c _ σ h hck.1 x g a w _ hx hN hr fun e σ' g' a' w' hr' hK => ?_)
    cases e with
    | normal => exact hK hck.2 x g' a' w' Q hx hN hr' hQ
    | exit id => exact hQ _ _ _ _ _ hr' hK
    | goto l => exact hQ _ _ _ _ _ hr' hK
    | ret => exact hQ _ _ _ _ _ hr' hK
    | panic c => exact hQ _ _ _ _ _ hr' hK
    | outgrown => exact hQ _ _ _ _ _ hr' hK
  | .block id c, K, σ, h => by
    intro hck x g a w Q hx hN hr hQ
    simp only [chkC] at hck
    refine wp_block (stp_ok c _ σ h hck x g a w _ hx hN hr fun e σ' g' a' w' hr' hK => ?_)
    cases e with
    | exit id' =>
      simp only [Exit.inBlock]
      simp only [blockK] at hK
      split
      · rename_i e; rw [if_pos e] at hK; exact hQ _ _ _ _ _ hr' hK
      · rename_i e; rw [if_neg e] at hK; exact hQ _ _ _ _ _ hr' hK
    | normal => exact hQ _ _ _ _ _ hr' hK
    | goto l => exact hQ _ _ _ _ _ hr' hK
    | ret => exact hQ _ _ _ _ _ hr' hK
    | panic c => exact hQ _ _ _ _ _ hr' hK
    | outgrown => exact hQ _ _ _ _ _ hr' hK
  | .cond z c d, K, σ, h => by
    intro hck x g a w Q hx hN hr hQ
    simp only [chkC, Bool.and_eq_true] at hck
    simp only [stp, condV] at h
    split at h
    · rename_i t hz
      have hv := ev_ok hr z
      rw [hz] at hv
      have hv : a.eval z = .bool t := Rep.s_inv (show Rep g.S g.up w none (.s (.bool t)) _ from hv)
      exact wp_cond_split hv (fun e => h.1 e hck.1 x g a w Q hx hN hr hQ) (fun e => h.2 e hck.2 x g a w Q hx hN hr hQ)
    · exact h.elim
  | .region id ⟨l⟩ dr, K, σ, h => by
    intro hck x g a w Q hx hN hr hQ
    simp only [chkC, Bool.and_eq_true] at hck
    cases dr with
    | false =>
      simp only [stp] at h
      subst hN
      rw [← hx]
      refine wp_region_lit (aops_sound (M := M.at id) hx hck.1 (fun σ' g' a' w' hr' hK => hQ _ _ _ _ _ hr' hK) l (fun o ho d hd => ?_) σ g a w hr h)
      obtain ⟨j, hj⟩ := List.mem_iff_getElem?.1 ho
      exact chk_spec hck.1 (j := j) (o := o) (by simpa using hj) hd
    | true =>
      simp only [stp] at h
      simp only [Bool.not_true, Bool.false_or] at hck
      split at h
      · rename_i m fx fl π hp
        rw [hp] at hck
        exact AC_drawQ (M := M.at id) m fx (flF fl) π hck.2 hck.1 h x g a w Q hx hN hr hQ
      · exact h.elim
  | .loop c, K, σ, h => h
  | .rangeFunc _ _ _ _, K, σ, h => h.elim
  | .goto _, K, σ, h => h.elim
theorem AC_go {c : Code} (h : stp M N pl c K σ) : AC M N pl c K σ := stp_ok c K σ h
theorem AC_loop {c : Code} (J : Nat → St → Prop) (n0 : Nat) (h0 : J n0 σ) (round : ∀ n σ, J n σ → ∀ K' : St → Prop, (∀ n' σ', n' < n → J n' σ' → K' σ') → AC M N pl c (thenK K' K) σ) : ACL M N pl c K σ := by
  intro hck x g a w Q hx hN hr hQ
  simp only [chkC] at hck
  refine wp_loop_ghost (fun n a w => ∃ σ g, Rel x g σ a w ∧ J n σ) n0 ⟨σ, g, hr, h0⟩ ?_
  rintro n a w ⟨σ, g, hr, hJ⟩
  refine round n σ hJ (fun σ' => ∃ n', n' < n ∧ J n' σ') (fun n' σ' h1 h2 => ⟨n', h1, h2⟩) hck x g a w _ hx hN hr fun e σ' g' a' w' hr' hK => ?_
  cases e with
  | normal =>
    obtain ⟨n', hlt, hJ'⟩ := hK
    exact ⟨n', hlt, σ', g', hr', hJ'⟩
  | exit id => exact hQ _ _ _ _ _ hr' hK
  | goto l => exact hQ _ _ _ _ _ hr' hK
  | ret => exact hQ _ _ _ _ _ hr' hK
  | panic c => exact hQ _ _ _ _ _ hr' hK
  | outgrown => exact hQ _ _ _ _ _ hr' hK
theorem ACL_ac {c : Code} (h : AC M N pl (.loop c) K σ) : ACL M N pl c K σ := h
/-! ### the frame seen otherwise -/
theorem AC_weak {c : Code} {σ' : St} (hw : ∀ (x : Cx) (g : Gh) (a : Act) (w : World), x.P = M.P → x.N = N → Rel x g σ a w → ∃ g', Rel x g' σ' a w) (h : AC M N pl c K σ') : AC M N pl c K σ := by
  intro hck x g a w Q hx hN hr hQ
  obtain ⟨g', hr'⟩ := hw x g a w hx hN hr
  exact h hck x g' a w Q hx hN hr' hQ
theorem AC_fr {c : Code} (id : Nat) (o : Ob) (hb : σ.b id = some o) (hd : deepO o = true) (h : AC M N pl c K (σ.fr id o)) : AC M N pl c K σ := AC_weak (fun x g a w _ _ hr => hr.freeze id o hb hd) h
theorem AC_fold {c : Code} (id : Nat) {ob : Prop} {ds : List D} {σ' : St} (hf : foldB σ id = some (ob, ds, σ')) (ho : ob) (h : AC M N pl c K σ') : AC M N pl c K σ := AC_weak (fun x g a w _ _ hr => hr.foldB hf ho) h
theorem AC_unf {c : Code} (id : Nat) (row : List D) (hb : σ.b id = some (.box row)) (hd : row.all deepB = true) (hid : id < 1000000) (h : AC M N pl c K (σ.unfB id row)) : AC M N pl c K σ := AC_weak (fun x g a w _ _ hr => hr.unfB hb hd hid) h
/-- the frame may be seen so too. -/
def Wk (M : Md) (N : Nat) (σ σ' : St) : Prop := ∀ (x : Cx) (g : Gh) (a : Act) (w : World), x.P = M.P → x.N = N → Rel x g σ a w → ∃ g', Rel x g' σ' a w
theorem Wk.refl : Wk M N σ σ := fun _ g _ _ _ _ h => ⟨g, h⟩
theorem Wk.trans {σ' σ'' : St} (h : Wk M N σ σ') (h' : Wk M N σ' σ'') : Wk M N σ σ'' := fun x g a w hx hN hr => (h x g a w hx hN hr).elim fun g' hr' => h' x g' a w hx hN hr'
theorem AC_loopW {c : Code} (J : Nat → St → Prop) (n0 : Nat) (h0 : J n0 σ) (round : ∀ n σ, J n σ → ∀ K' : St → Prop, (∀ n' σ' σ'', n' < n → Wk M N σ' σ'' → J n' σ'' → K' σ') → AC M N pl c (thenK K' K) σ) : ACL M N pl c K σ := by
  intro hck x g a w Q hx hN hr hQ
  simp only [chkC] at hck
  refine wp_loop_ghost (fun n a w => ∃ σ g, Rel x g σ a w ∧ J n σ) n0 ⟨σ, g, hr, h0⟩ ?_
  rintro n a w ⟨σ, g, hr, hJ⟩
  refine round n σ hJ (fun σ' => ∃ n' σ'', n' < n ∧ Wk M N σ' σ'' ∧ J n' σ'') (fun n' σ' σ'' h1 h2 h3 => ⟨n', σ'', h1, h2, h3⟩) hck x g a w _ hx hN hr fun e σ' g' a' w' hr' hK => ?_
  cases e with
  | normal =>
    obtain ⟨n', σ'', hlt, hw, hJ'⟩ := hK
    obtain ⟨g'', hr''⟩ := hw x g' a' w' hx hN hr'
    exact ⟨n', hlt, σ'', g'', hr'', hJ'⟩
  | exit id => exact hQ _ _ _ _ _ hr' hK
  | goto l => exact hQ _ _ _ _ _ hr' hK
  | ret => exact hQ _ _ _ _ _ hr' hK
  | panic c => exact hQ _ _ _ _ _ hr' hK
  | outgrown => exact hQ _ _ _ _ _ hr' hK
theorem Wk_open (id i j nm : Nat) {e k : Nat} {rows : List (List D)} {row : List D} {d : D} {o : Ob} (hb : σ.b id = some (.arr e k rows)) (hi : rows[i]? = some row) (hd : row[j]? = some d) (hu : unfD d = some o) (hne : nm ≠ id) (hnP : isP nm = false) : Wk M N σ (σ.opE id e k rows i j nm d o) := fun x g a w _ _ hr => hr.openE hb i j nm hi hd hu hne hnP
theorem AC_open {c : Code} (id i j nm : Nat) {e k : Nat} {rows : List (List D)} {row : List D} {d : D} {o : Ob} (hb : σ.b id = some (.arr e k rows)) (hi : rows[i]? = some row) (hd : row[j]? = some d) (hu : unfD d = some o) (hne : nm ≠ id) (hnP : isP nm = false) (h : AC M N pl c K (σ.opE id e k rows i j nm d o)) : AC M N pl c K σ := AC_weak (Wk_open id i j nm hb hi hd hu hne hnP) h
theorem Wk_close (id nm : Nat) {e k i j : Nat} {rows : List (List D)} {r d : D} {ob : Prop} (hb : σ.b id = some (.hol e k rows i j r)) (hf : fdC σ r = some (ob, d)) (ho : ob) (hr : idC r = some nm) (hne : nm ≠ id) : Wk M N σ ((σ.sc (pOut [nm]) (pOut [nm])).setB id (.arr e k (rows.set i ((rows.getD i []).set j d)))) := fun x g a w _ _ hr' => hr'.closeE hb hf ho hr hne
theorem AC_close {c : Code} (id nm : Nat) {e k i j : Nat} {rows : List (List D)} {r d : D} {ob : Prop} (hb : σ.b id = some (.hol e k rows i j r)) (hf : fdC σ r = some (ob, d)) (ho : ob) (hr : idC r = some nm) (hne : nm ≠ id) (h : AC M N pl c K ((σ.sc (pOut [nm]) (pOut [nm])).setB id (.arr e k (rows.set i ((rows.getD i []).set j d))))) : AC M N pl c K σ := AC_weak (Wk_close id nm hb hf ho hr hne) h
/-- a slice is no longer than memory. -/
theorem AC_len {c : Code} (i : Nat) {k : Nat} {rows : List (List D)} (hi : bodyT (σ.t i) = .sl k rows) (ho : oblT (σ.t i)) (h : rows.length ≤ 9223372036854775807 → AC M N pl c K σ) : AC M N pl c K σ := by
  intro hck x g a w Q hx hN hr hQ
  have hb := body_ok (hr.tm i) ho
  rw [hi] at hb
  obtain ⟨_, _, _, h1, h2⟩ := Rep.sl_shape (show Rep g.S g.up w none (.sl k rows) _ from hb)
  exact h (by unfold maxLen at h2; omega) hck x g a w Q hx hN hr hQ
end
end Go.Proofs.Ythkgncddilkmbaa
