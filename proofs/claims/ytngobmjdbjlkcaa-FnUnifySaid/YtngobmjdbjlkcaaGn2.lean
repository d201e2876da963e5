import Derived.Test.YtngobmjdbjlkcaaGx
/- The second engine: a cell of a variable that holds nil, seen as an empty slice of one's own. -/
namespace Go.Proofs.Ytngobmjdbjlkcaa
set_option linter.unusedVariables false
set_option linter.unusedSimpArgs false
open Go.RowKit
def St.nilE (σ : St) (id : Nat) (row : List D) (c nm e k : Nat) : St := ((σ.sc (pOut [nm]) (pOut [nm])).setB id (.box ((row.map (scC (pOut [nm]))).set c (.bs nm k 0)))).setB nm (.arr e k [])
theorem Rel.nilE {x : Cx} {g : Gh} {σ : St} {a : Act} {w : World} (h : Rel x g σ a w) {id c nm : Nat} {row : List D} (e k : Nat) (hb : σ.b id = some (.box row)) (hc : row[c]? = some .nil) (hne : nm ≠ id) (hnP : isP nm = false) : ∃ g', Rel x g' (σ.nilE id row c nm e k) a w := by
  let g' : Gh := ⟨fun j => if j = nm then none else g.β j, fun j => if j = nm then 0 else g.κ j, g.up, g.S⟩
  have ev : Ev (fun p => p ≠ .root nm) (fun p => p) (pOut [nm]) (pOut [nm]) g g' w w := by
    refine ⟨⟨fun b hb => ⟨hb, rfl⟩, fun b p hp _ => ⟨hp, rfl⟩, fun b p o _ _ => ⟨by simp, rfl⟩⟩, fun j hj => ?_, fun j hj => ?_⟩
    · have := pOut_spec hj nm (by simp)
      exact ⟨if_neg this, if_neg this⟩
    · have := pOut_spec hj nm (by simp)
      exact ⟨hj, fun q => by injection q with q; exact this q, rfl⟩
  have hR := h.ev ev (Below.refl _ _) (fun b _ _ => rfl) (fun b _ hs => .inl hs) h.new h.own
  have hid : pOut [nm] id = true := by simp [pOut]; exact fun q => hne q.symm
  have hbx : (σ.sc (pOut [nm]) (pOut [nm])).b id = some (.box (row.map (scC (pOut [nm])))) := by
    show (if pOut [nm] id = true then (σ.b id).map (scO (pOut [nm])) else none) = _
    rw [if_pos hid, hb]; rfl
  obtain ⟨b, cs, ty, e1, e2, e3, e4, e5⟩ := hR.ob id _ hbx
  have hcl : c < row.length := (List.getElem?_eq_some_iff.1 hc).1
  refine ⟨g', (hR.setB (id := id) (o := .box ((row.map (scC (pOut [nm]))).set c (.bs nm k 0))) ⟨b, cs, ty, e1, e2, e3, by simpa using e4, fun j d hj => ?_⟩ (fun hp => hR.par id _ hbx hp)).setB (id := nm) ?_ (fun hp => by rw [hnP] at hp; cases hp)⟩
  · rw [List.getElem?_set] at hj
    split at hj
    · rename_i q; subst q
      rw [if_pos (by simpa using hcl)] at hj
      injection hj with hj; subst hj
      have h0 := e5 c .nil (by rw [List.getElem?_map, hc]; rfl)
      have h0 : Rep g'.S g'.up w (some (.cell b c)) .nil (cs.getD c undef) := h0
      generalize cs.getD c undef = v at h0
      cases h0
      have hβ : g'.β nm = none := if_pos rfl
      have hκ : g'.κ nm = 0 := if_pos rfl
      exact ⟨by rw [hβ, hκ]; rfl, Nat.zero_le _, by rw [hκ]; exact Nat.zero_le _, fun _ => hκ⟩
    · exact e5 j d hj
  · have hβ : g'.β nm = none := if_pos rfl
    have hκ : g'.κ nm = 0 := if_pos rfl
    show Rep g'.S g'.up w (some (.root nm)) (.osl e k []) (.slice ((g'.β nm).map fun b => ⟨b, 0, none⟩) 0 (g'.κ nm))
    rw [hβ, hκ]
    exact .osl0
theorem Wk_nil {M : Md} {N : Nat} {σ : St} (id c nm : Nat) {row : List D} (e k : Nat) (hb : σ.b id = some (.box row)) (hc : row[c]? = some .nil) (hne : nm ≠ id) (hnP : isP nm = false) : Wk M N σ (σ.nilE id row c nm e k) := fun x g a w _ _ hr => hr.nilE e k hb hc hne hnP
theorem AC_nil {M : Md} {N : Nat} {pl : List (Nat × Plan)} {K : Exit → St → Prop} {σ : St} {cd : Code} (id c nm : Nat) {row : List D} (e k : Nat) (hb : σ.b id = some (.box row)) (hc : row[c]? = some .nil) (hne : nm ≠ id) (hnP : isP nm = false) (h : AC M N pl cd K (σ.nilE id row c nm e k)) : AC M N pl cd K σ := AC_weak (Wk_nil id c nm e k hb hc hne hnP) h
theorem nilE_t (σ : St) (id : Nat) (row : List D) (c nm e k j : Nat) : (σ.nilE id row c nm e k).t j = scT (pOut [nm]) (σ.t j) := rfl
theorem nilE_b (σ : St) (id : Nat) (row : List D) (c nm e k j : Nat) : (σ.nilE id row c nm e k).b j = if j = nm then some (.arr e k []) else if j = id then some (.box ((row.map (scC (pOut [nm]))).set c (.bs nm k 0))) else if pOut [nm] j = true then (σ.b j).map (scO (pOut [nm])) else none := rfl
attribute [go_sem] nilE_t nilE_b
end Go.Proofs.Ytngobmjdbjlkcaa
