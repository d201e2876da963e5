/- Reading the arguments of a law: from the form's reading to plain predicates over a part of the heap. -/
import Derived.Test.YtokjkmibnjfkaaaMem
import Derived.ProofKit
import Derived.Deep.Slices
namespace Go.Proofs.Ytokjkmibnjfkaaa
set_option linter.unusedVariables false
open Go.RowKit Go.ChangeShapes Go.WideShapes

section
variable {H : Type} {enc : TypeId × Value → H} {P : Program} {W : World} {held : Bool}

/-- reading at whatever places, spare room too. -/
abbrev Rd (enc : TypeId × Value → H) (P : Program) (W : World) (fuel : Nat) (t : TypeId) (cs : List Value) (x : DataW H × List MemPlace) : Prop := DataW.trod enc P W 0 (fun _ => true) true fuel t cs = some x

theorem mapM_all {α β : Type} (f : α → Option β) : ∀ (l : List α) (ys : List β), l.mapM f = some ys → ∀ a ∈ l, ∃ y, f a = some y
  | [], _, _, a, ha => by cases ha
  | b :: l, ys, h, a, ha => by
    rw [List.mapM_cons] at h
    cases hb : f b with
    | none => rw [hb] at h; simp at h
    | some y =>
      rw [hb] at h
      cases hl : l.mapM f with
      | none => rw [hl] at h; simp at h
      | some zs =>
        rcases List.mem_cons.1 ha with rfl | ha
        · exact ⟨y, hb⟩
        · exact mapM_all f l zs hl a ha

/-- a struct's fields, each read at its place. -/
theorem rd_fields {fuel : Nat} {t : TypeId} {fs : Array Field} {cs : List Value} {x : DataW H × List MemPlace} (hu : P.underlying t = some (.struct fs)) (h : Rd enc P W fuel t cs x) :
    cs.length = P.cellsOf t ∧ ∃ m, ∀ f ∈ fs.toList, ∃ y, Rd enc P W m f.type ((cs.drop f.offset).take (P.cellsOf f.type)) y := by
  cases fuel with
  | zero => simp [Rd, DataW.trod] at h
  | succ n =>
    unfold Rd DataW.trod at h
    rw [hu] at h
    simp only at h
    split at h
    · rename_i hl
      refine ⟨hl, n, fun f hf => ?_⟩
      cases hm : fs.toList.mapM fun f => DataW.trod enc P W 0 (fun _ => true) true n f.type ((cs.drop f.offset).take (P.cellsOf f.type)) with
      | none => rw [hm] at h; simp at h
      | some ys => exact mapM_all _ _ _ hm f hf
    · cases h

theorem cellsAt_of {b off : Nat} {cs : List Value} (hpos : 0 < cs.length) (h : ∀ i, i < cs.length → W.cell? ⟨b, off + i, none⟩ = cs[i]?) : CellsAt (hp W) b off cs := by
  have h0 := h 0 hpos
  rw [List.getElem?_eq_getElem hpos] at h0
  unfold World.cell? at h0
  split at h0
  · rename_i c e fr he
    refine ⟨c, e, fr, he, fun i hi => ?_⟩
    have := h i hi
    simp only [World.cell?, he] at this
    rw [if_neg (by simp)] at this
    exact this
  · cases h0

/-- a slice whose elements (k cells each) read by R. -/
def SlOf {α : Type} (k : Nat) (R : Hp → List Value → α → Prop) (h : Hp) (v : Value) (xs : List α) : Prop :=
  ∃ a c, v = .slice a xs.length c ∧ xs.length ≤ c ∧ c ≤ maxLen ∧
    (xs = [] ∨ ∃ b off, a = some ⟨b, off, none⟩ ∧ ∀ i (hi : i < xs.length), ∃ r, r.length = k ∧ CellsAt h b (off + i * k) r ∧ R h r xs[i])
theorem SlOf.le {α : Type} {k : Nat} {R : Hp → List Value → α → Prop} {h h' : Hp} {v : Value} {xs : List α} (x : SlOf k R h v xs) (l : HLe h h') (hR : ∀ r x, x ∈ xs → R h r x → R h' r x) : SlOf k R h' v xs :=
  let ⟨a, c, e, h1, h2, r⟩ := x
  ⟨a, c, e, h1, h2, r.imp id fun ⟨b, off, ea, hc⟩ => ⟨b, off, ea, fun i hi => let ⟨r, l1, l2, l3⟩ := hc i hi; ⟨r, l1, l2.le l, hR _ _ (List.getElem_mem hi) l3⟩⟩⟩
theorem SlOf.nil {α : Type} (k : Nat) (R : Hp → List Value → α → Prop) (h : Hp) : SlOf k R h (.slice none 0 0) [] := ⟨none, 0, rfl, Nat.le_refl _, by decide, .inl rfl⟩

theorem list_of_fn {α : Type} {n : Nat} {p : Nat → α → Prop} (h : ∀ i, i < n → ∃ x, p i x) : ∃ xs : List α, xs.length = n ∧ ∀ i (hi : i < xs.length), p i xs[i] := by
  induction n with
  | zero => exact ⟨[], rfl, fun i hi => by simp at hi⟩
  | succ n ih =>
    obtain ⟨xs, hl, hx⟩ := ih (fun i hi => h i (by omega))
    obtain ⟨x, hxn⟩ := h n (by omega)
    refine ⟨xs ++ [x], by simp [hl], fun i hi => ?_⟩
    by_cases e : i < xs.length
    · rw [List.getElem_append_left e]; exact hx i e
    · have : i = n := by simp at hi; omega
      subst this
      rw [List.getElem_append_right (by omega)]
      simpa [hl] using hxn

/-- a slice, each element read. -/
theorem rd_slice {α : Type} {fuel : Nat} {t e : TypeId} {cs : List Value} {x : DataW H × List MemPlace} (k : Nat) (R : Hp → List Value → α → Prop) (hu : P.underlying t = some (.slice e)) (hk : P.cellsOf e = k) (hk0 : 0 < k)
    (hR : ∀ n cs' y, Rd enc P W n e cs' y → ∃ z, R (hp W) cs' z) (h : Rd enc P W fuel t cs x) : ∃ v xs, cs = [v] ∧ SlOf k R (hp W) v (xs : List α) := by
  rcases Deep.open_slice hu h with ⟨rfl, _⟩ | ⟨a, len, cap, m, n, D, Pl, rfl, -, hl, hm, hmm, -, hel⟩
  · exact ⟨_, [], rfl, SlOf.nil _ _ _⟩
  · have hmm' : m = cap := by simpa using hmm
    subst hmm'
    rw [hk] at hel
    by_cases h0 : len = 0
    · subst h0
      exact ⟨_, [], rfl, some a, m, rfl, Nat.zero_le _, hm, .inl rfl⟩
    · obtain ⟨b, off, spot⟩ := a
      have hspot : spot = none := by
        obtain ⟨cs', h1, _⟩ := hel 0 (by omega)
        obtain ⟨_, h2, h3⟩ := World.cells?_some h1
        have h4 := h3 0 hk0
        rw [List.getElem?_eq_getElem (by omega)] at h4
        have := World.cell?_spot h4
        simpa [Addr.add] using this
      subst hspot
      obtain ⟨xs, hxl, hxs⟩ := list_of_fn (n := len) (p := fun i x => ∃ r, r.length = k ∧ CellsAt (hp W) b (off + i * k) r ∧ R (hp W) r x) (fun i hi => by
        obtain ⟨cs', h1, h2⟩ := hel i (by omega)
        obtain ⟨_, h3, h4⟩ := World.cells?_some h1
        obtain ⟨z, hz⟩ := hR _ _ _ h2
        refine ⟨z, cs', h3, cellsAt_of (by omega) (fun j hj => ?_), hz⟩
        have := h4 j (by omega)
        rw [← this]
        rw [addr_add, addr_add])
      exact ⟨_, xs, rfl, _, m, by rw [hxl], by omega, hm, .inr ⟨b, off, rfl, fun i hi => hxs i hi⟩⟩
end
def I64 (n : Int) : Prop := -9223372036854775808 ≤ n ∧ n ≤ 9223372036854775807
theorem i64_of {z : Int} (hz : (Lit.int .i64 z).wf = true) : I64 z := by
  simp only [Lit.wf, IntKind.min, IntKind.max, IntKind.signed, IntKind.bits, Bool.and_eq_true, decide_eq_true_eq, if_true] at hz
  unfold I64
  omega
end Go.Proofs.Ytokjkmibnjfkaaa
