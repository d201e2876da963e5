import Derived.Test.YtahdaknaoogpkaaGreatNmB
import Derived.Test.YtahdaknaoogpkaaGreatPaB
import Derived.Test.YtahdaknaoogpkaaGreatJn
import Derived.Test.YtahdaknaoogpkaaGreatDecB
/- strings.Join over the second engine. -/
namespace Go.Proofs.YtahdaknaoogpkaaGreat
set_option linter.unusedVariables false
set_option linter.unusedSimpArgs false
open Go.RowKit
theorem stE_frzS (xs : List ByteArray) : frzLL (xs.map stE) = xs.map stE := frz_rows (fun _ => rfl) xs
def joinL (xs : List ByteArray) (sep : ByteArray) : ByteArray := bs (Lib.join (xs.map fun x => x.data.toList) sep.data.toList)
theorem c_Join (xs : List ByteArray) (sep : ByteArray) (hN : xs.length ≤ 140737488355328) (hlen : (Lib.join (xs.map fun x => x.data.toList) sep.data.toList).length ≤ 140737488355328) : FCon Tryz.prog 43 [.sl 1 (xs.map stE), .s (.string sep)] (fun r _ => r = .s (.string (joinL xs sep))) := by
  refine FCon.ofBelow (Rv := fun v => v = .string (joinL xs sep)) Tryz.func43 rfl rfl ?_ rfl ?_
  · rintro _ rfl; exact ⟨rfl, rfl⟩
  · intro w S up vs hl' hv
    obtain ⟨u, v, rfl, hu, hw⟩ := two_args (P := fun _ d u => RB S up w d u) hl' hv
    obtain rfl : v = .string sep := Rep.s_inv (show Rep S up w none (.s (.string sep)) v from hw)
    have hu : Rep S up w none (.sl 1 (xs.map stE)) u := hu
    generalize hrows : xs.map stE = rows at hu
    cases hu with
    | @sl0 _ _ a c hc =>
      obtain rfl : xs = [] := by cases xs with | nil => rfl | cons _ _ => simp at hrows
      exact (jn_none a c sep w).mono fun e w' h => ⟨_, h.1, rfl, by rw [h.2]; exact Below.refl _ _⟩
    | @sl _ _ _ b off c us c1 c2 c3 c4 c5 =>
      subst hrows
      rw [List.length_map] at c1 ⊢
      have hc : ∀ (j : Nat) x, xs[j]? = some x → w.cell? ⟨b, off + j, none⟩ = some (.string x) := fun j x h => by
        have h1 : (xs.map stE)[j]? = some (stE x) := by rw [List.getElem?_map, h]; rfl
        have h2 := (c4 j 0 _ _ h1 rfl).2
        have h3 : us j 0 = .string x := Rep.s_inv (c5 j 0 _ _ h1 rfl)
        rw [h3] at h2
        simpa using h2
      by_cases hx : xs = []
      · subst hx
        exact (jn_none (some ⟨b, off, none⟩) c sep w).mono fun e w' h => ⟨_, h.1, rfl, by rw [h.2]; exact Below.refl _ _⟩
      · have hb : b < w.heap.size := by
          cases xs with
          | nil => exact absurd rfl hx
          | cons x l =>
            have := hc 0 x rfl
            refine Decidable.byContradiction fun hn => ?_
            have hnone : w.heap[b]? = none := Array.getElem?_eq_none (by omega)
            simp [World.cell?, hnone] at this
        exact (jn_some b off c xs sep w hc hb hN c1 hlen).mono fun e w' h => ⟨_, h.1, rfl, h.2⟩
end Go.Proofs.YtahdaknaoogpkaaGreat
