/- A quoted text tells its text. -/
import Derived.Test.YtallaohjlncajaaUnqWalks
import Derived.Test.YtallaohjlncajaaTxtWalks
namespace Go.Proofs.Ytallaohjlncajaa
set_option linter.unusedVariables false
theorem hexB_inj {m n : Nat} (hm : m < 16) (hn : n < 16) (h : hexB m = hexB n) : m = n := by
  have e := congrArg (fun b : UInt8 => (b.toNat : Int)) h
  simp only [hexB_nat hm, hexB_nat hn] at e
  have a := halfI_hex (n := (m : Int)) (by omega) (by omega)
  have b := halfI_hex (n := (n : Int)) (by omega) (by omega)
  rw [e, b] at a
  omega
theorem quoB_head (a b : UInt8) (x y : List UInt8) (h : quoB a ++ x = quoB b ++ y) : a = b := by
  rcases quoB_cases a with ⟨e, h1⟩ | ⟨e, h1⟩ | ⟨e, h1⟩ | e <;> rcases quoB_cases b with ⟨f, h2⟩ | ⟨f, h2⟩ | ⟨f, h2⟩ | f <;> rw [e, f] at h <;> simp only [List.cons_append, List.nil_append, List.cons.injEq, true_and] at h
  · rw [h1, h2]
  · rcases h2 with rfl | rfl <;> simp at h
  · exact absurd h.1.symm h2
  · exact absurd h.1 (by decide)
  · rcases h1 with rfl | rfl <;> simp at h
  · exact h.1
  · exact absurd h.1.symm h2
  · rcases h1 with rfl | rfl <;> simp at h
  · exact absurd h.1 h1
  · exact absurd h.1 h1
  · exact h.1
  · exact absurd h.1 h1
  · exact absurd h.1 (by decide)
  · rcases h2 with rfl | rfl <;> simp at h
  · exact absurd h.1.symm h2
  · obtain ⟨h3, h4, _⟩ := h
    have ha := a.toNat_lt
    have hb := b.toNat_lt
    have e1 := hexB_inj (by omega) (by omega) h3
    have e2 := hexB_inj (by omega) (by omega) h4
    exact UInt8.toNat_inj.mp (by omega)
theorem quoB_pos (b : UInt8) : 0 < (quoB b).length := by
  rcases quoB_cases b with ⟨e, _⟩ | ⟨e, _⟩ | ⟨e, _⟩ | e <;> rw [e] <;> simp
theorem quo_tail_inj : ∀ (t l : List UInt8), t.flatMap quoB ++ [34] = l.flatMap quoB ++ [34] → t = l
  | [], [], _ => rfl
  | [], b :: l, h => by
    have e := congrArg List.length h
    have := quoB_pos b
    simp at e
    omega
  | a :: t, [], h => by
    have e := congrArg List.length h
    have := quoB_pos a
    simp at e
    omega
  | a :: t, b :: l, h => by
    simp only [List.flatMap_cons, List.append_assoc] at h
    obtain rfl := quoB_head a b _ _ h
    rw [quo_tail_inj t l (List.append_cancel_left h)]
theorem quoL_inj {t l : List UInt8} (h : quoL t = quoL l) : t = l := by
  unfold quoL at h
  simp only [List.cons_append, List.cons.injEq, true_and] at h
  exact quo_tail_inj t l h
theorem unq_quo (s : ByteArray) : unqV (bs (quoL s.data.toList)) = .tuple #[.string s, .bool true] := by
  rw [unqV_some (unqO_some (out := s.data.toList) (fun t h => (quoL_inj h).symm) rfl), bs_of]
theorem txt_num {n : Int} (h0 : -4611686018427387904 ≤ n) (h1 : n ≤ 4611686018427387903) : txtV (bs (numT n)) = .tuple #[.int .i64 n, .bool true] := txtV_some (txtO_num h0 h1)
theorem txt_out {n : Int} (h : ¬ (-4611686018427387904 ≤ n ∧ n ≤ 4611686018427387903)) : txtV (bs (numT n)) = .tuple #[.int .i64 0, .bool false] := by
  rw [numT_out h]; exact txtV_none txtO_nil
theorem numT_ne {n : Int} (h0 : -4611686018427387904 ≤ n) (h1 : n ≤ 4611686018427387903) : bs (numT n) ≠ ⟨#[]⟩ := by
  have : 0 < (numT n).length := by
    by_cases h : n < 0
    · rw [numT_neg h0 h]; simp
    · rw [numT_pos h1 h]; exact decL_pos _
  intro e
  have := congrArg ByteArray.size e
  rw [bs_size] at this
  change (numT n).length = 0 at this
  omega
end Go.Proofs.Ytallaohjlncajaa
