/- Tokens: how they are read; szTok, toTok, SignOf of both texts. -/
import Derived.Test.YtallaohjlncajaaProg
import Derived.Test.YtallaohjlncajaaOpen
import Derived.Test.YtallaohjlncajaaStrWalks
namespace Go.Proofs.Ytallaohjlncajaa
set_option linter.unusedVariables false
open Go.RowKit Go.ChangeShapes Go.WideShapes

structure Tok where
  kind : Int
  n : Int
  s : ByteArray
  pos : Int
def Tok.cells (t : Tok) : List Value := [.int .i64 t.kind, .int .i64 t.n, .string t.s, .int .i64 t.pos]
def Tok.val (t : Tok) : Value := .agg #[.int .i64 t.kind, .int .i64 t.n, .string t.s, .int .i64 t.pos]

theorem len4 {cs : List Value} (h : cs.length = 4) : ∃ a b c d, cs = [a, b, c, d] := by
  match cs, h with
  | [a, b, c, d], _ => exact ⟨a, b, c, d, rfl⟩
theorem cells_Tok : Try.prog.cellsOf 30 = 4 := by kernel_rfl
theorem cells_int : Try.prog.cellsOf 3 = 1 := by kernel_rfl
theorem cells_string : Try.prog.cellsOf 9 = 1 := by kernel_rfl

theorem rd_Tok {H : Type} {enc : TypeId × Value → H} {W : World} {n : Nat} {cs : List Value} {x : DataW H × List MemPlace} (h : Rd enc Try.prog W n 30 cs x) :
    ∃ t : Tok, cs = t.cells ∧ t.s.size ≤ maxLen := by
  obtain ⟨hl, m, hf⟩ := rd_fields Try.underlying30 h
  rw [cells_Tok] at hl
  obtain ⟨a, b, c, d, rfl⟩ := len4 hl
  simp only [List.forall_mem_cons, cells_int, cells_string] at hf
  obtain ⟨⟨_, h0⟩, ⟨_, h1⟩, ⟨_, h2⟩, ⟨_, h3⟩, _⟩ := hf
  obtain ⟨k0, e0, -, -⟩ := DataW.trod_int Try.underlying3 h0
  obtain ⟨k1, e1, -, -⟩ := DataW.trod_int Try.underlying3 h1
  obtain ⟨k2, e2, -, hs⟩ := DataW.trod_string Try.underlying9 h2
  obtain ⟨k3, e3, -, -⟩ := DataW.trod_int Try.underlying3 h3
  simp at e0 e1 e2 e3
  subst e0 e1 e2 e3
  exact ⟨⟨k0, k1, k2, k3⟩, rfl, hs⟩

theorem laws_szTok (w : World) (t : Tok) (left : Int) (h0 : 0 ≤ left) (h1 : left ≤ 1048576) (hs : t.s.size ≤ maxLen) :
    Calls Try.prog 33 #[t.val, .int .i64 left] w fun e w' => e = .returned (.int .i64 (if left < t.s.size then -1 else left - t.s.size)) ∧ Below w.heap.size w w' := by
  obtain ⟨k, n, s, a⟩ := t
  unfold Tok.val
  unfold maxLen at hs
  dsimp only at hs ⊢
  by_cases h : left < s.size
  · rw [if_pos h]
    go_enter Try.func33, Try.ntmps33
    go_wp2
    go_ret
    exact ⟨rfl, (by repeat (first | exact Below.refl _ _ | assumption | (refine below_chain ?_ ?_ ?_; assumption) | refine Below.drew ?_ | refine Below.alloc ?_ ?_ _ | refine Below.setCell ?_ ?_ _ | exact Nat.le_refl _ | omega | (simp <;> omega)))⟩
  · rw [if_neg h]
    go_enter Try.func33, Try.ntmps33
    go_wp2
    go_ret
    exact ⟨rfl, (by repeat (first | exact Below.refl _ _ | assumption | (refine below_chain ?_ ?_ ?_; assumption) | refine Below.drew ?_ | refine Below.alloc ?_ ?_ _ | refine Below.setCell ?_ ?_ _ | exact Nat.le_refl _ | omega | (simp <;> omega)))⟩
theorem laws_toTok (w : World) (t : Tok) :
    Calls Try.prog 35 #[t.val] w fun e w' => e = .returned t.val ∧ Below w.heap.size w w' := by
  obtain ⟨k, n, s, a⟩ := t
  unfold Tok.val
  dsimp only
  go_enter Try.func35, Try.ntmps35
  go_wp2
  exact bodyPost_ret (v := .agg #[.int .i64 k, .int .i64 n, .string s, .int .i64 a]) (by simp [results, Try.results35, go_sem]) rfl ⟨rfl, (by repeat (first | exact Below.refl _ _ | assumption | (refine below_chain ?_ ?_ ?_; assumption) | refine Below.drew ?_ | refine Below.alloc ?_ ?_ _ | refine Below.setCell ?_ ?_ _ | exact Nat.le_refl _ | omega | (simp <;> omega)))⟩
def sgn (t : Tok) : ByteArray := if t.kind = 6 then t.s else ⟨#[]⟩
theorem impl_SignOf (w : World) (t : Tok) :
    Calls Try.prog 36 #[t.val] w fun e w' => e = .returned (.string (sgn t)) ∧ Below w.heap.size w w' := by
  obtain ⟨k, n, s, a⟩ := t
  unfold Tok.val sgn
  dsimp only
  by_cases h : k = 6
  · rw [if_pos h]
    have hb : (k != 6) = false := by simp [h]
    clear h
    go_enter Try.func36, Try.ntmps36
    go_wp2
    go_ret
    exact ⟨rfl, (by repeat (first | exact Below.refl _ _ | assumption | (refine below_chain ?_ ?_ ?_; assumption) | refine Below.drew ?_ | refine Below.alloc ?_ ?_ _ | refine Below.setCell ?_ ?_ _ | exact Nat.le_refl _ | omega | (simp <;> omega)))⟩
  · rw [if_neg h]
    have hb : (k != 6) = true := by simp [h]
    clear h
    go_enter Try.func36, Try.ntmps36
    go_wp2
    go_ret
    exact ⟨rfl, (by repeat (first | exact Below.refl _ _ | assumption | (refine below_chain ?_ ?_ ?_; assumption) | refine Below.drew ?_ | refine Below.alloc ?_ ?_ _ | refine Below.setCell ?_ ?_ _ | exact Nat.le_refl _ | omega | (simp <;> omega)))⟩
theorem spec_SignOf (w : World) (t : Tok) :
    Calls Try.prog 34 #[t.val] w fun e w' => e = .returned (.string (sgn t)) ∧ Below w.heap.size w w' := by
  obtain ⟨k, n, s, a⟩ := t
  unfold Tok.val sgn
  dsimp only
  by_cases h : k = 6
  · rw [if_pos h]
    have hb : (k != 6) = false := by simp [h]
    clear h
    go_enter Try.func34, Try.ntmps34
    go_wp2
    go_ret
    exact ⟨rfl, (by repeat (first | exact Below.refl _ _ | assumption | (refine below_chain ?_ ?_ ?_; assumption) | refine Below.drew ?_ | refine Below.alloc ?_ ?_ _ | refine Below.setCell ?_ ?_ _ | exact Nat.le_refl _ | omega | (simp <;> omega)))⟩
  · rw [if_neg h]
    have hb : (k != 6) = true := by simp [h]
    clear h
    go_enter Try.func34, Try.ntmps34
    go_wp2
    go_ret
    exact ⟨rfl, (by repeat (first | exact Below.refl _ _ | assumption | (refine below_chain ?_ ?_ ?_; assumption) | refine Below.drew ?_ | refine Below.alloc ?_ ?_ _ | refine Below.setCell ?_ ?_ _ | exact Nat.le_refl _ | omega | (simp <;> omega)))⟩
end Go.Proofs.Ytallaohjlncajaa
