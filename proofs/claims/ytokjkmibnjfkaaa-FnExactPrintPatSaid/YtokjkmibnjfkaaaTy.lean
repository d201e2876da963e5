/- Types: how they are read; szTy, toTy, eqTy. -/
import Derived.Test.YtokjkmibnjfkaaaOwn
import Derived.Test.YtokjkmibnjfkaaaStrWalks
import Derived.Test.YtokjkmibnjfkaaaTyM
import Derived.Deep.QuietTactic
import Derived.BigQuiet
namespace Go.Proofs.Ytokjkmibnjfkaaa
set_option linter.unusedVariables false
open Go.RowKit Go.ChangeShapes Go.WideShapes

def TyI.cells (x : TyI) : List Value := [.int .i64 x.v, .string x.name, .int .i64 x.ar]
def TyI.ok (x : TyI) : Prop := I64 x.v ∧ x.name.size ≤ maxLen ∧ I64 x.ar
def tyR (_ : Hp) (r : List Value) (x : TyI) : Prop := r = x.cells ∧ x.ok
abbrev TyS (h : Hp) (v : Value) (xs : List TyI) : Prop := SlOf 3 tyR h v xs
theorem TyS.le' {h h' : Hp} {v : Value} {xs : List TyI} (x : TyS h v xs) (l : HLe h h') : TyS h' v xs := SlOf.le x l fun _ _ _ r => r
theorem TyS.mem {h : Hp} {v : Value} {xs : List TyI} (x : TyS h v xs) : ∀ s ∈ xs, s.ok := by
  obtain ⟨a, c, _, _, _, r⟩ := x
  intro s hs
  rcases r with rfl | ⟨b, off, _, hc⟩
  · cases hs
  · obtain ⟨i, hi, rfl⟩ := List.getElem_of_mem hs
    obtain ⟨_, _, _, hr⟩ := hc i hi
    exact hr.2
/-- the cells of an item. -/
theorem TyS.cell {h : Hp} {a : Option Addr} {n c : Nat} {xs : List TyI} (x : TyS h (.slice a n c) xs) {i : Nat} (hi : i < xs.length) :
    ∃ b off, a = some ⟨b, off, none⟩ ∧ ∀ j (hj : j < xs.length) (w : World), Sub h w → w.cell? ⟨b, off + j * 3, none⟩ = some (.int .i64 xs[j].v) ∧
      w.cell? ⟨b, off + j * 3 + 1, none⟩ = some (.string xs[j].name) ∧ w.cell? ⟨b, off + j * 3 + 2, none⟩ = some (.int .i64 xs[j].ar) := by
  obtain ⟨a', c', e, _, _, r⟩ := x
  injection e with e1 e2 e3
  subst e1
  rcases r with rfl | ⟨b, off, ea, hc⟩
  · simp at hi
  · refine ⟨b, off, ea, fun j hj w hw => ?_⟩
    obtain ⟨r, hr1, hr2, hr3⟩ := hc j hj
    rw [hr3.1] at hr2
    exact ⟨hr2.cell hw (i := 0) (by simp [TyI.cells]), hr2.cell hw (i := 1) (by simp [TyI.cells]), hr2.cell hw (i := 2) (by simp [TyI.cells])⟩

theorem cells_TyItem : Try.prog.cellsOf 186 = 3 := by kernel_rfl
theorem cells_Ty : Try.prog.cellsOf 173 = 1 := by kernel_rfl
theorem cells_tint : Try.prog.cellsOf 3 = 1 := by kernel_rfl
theorem cells_tstring : Try.prog.cellsOf 9 = 1 := by kernel_rfl
theorem cells_tys : Try.prog.cellsOf 171 = 1 := by kernel_rfl
theorem tlen3 {cs : List Value} (h : cs.length = 3) : ∃ a b c, cs = [a, b, c] := by
  match cs, h with
  | [a, b, c], _ => exact ⟨a, b, c, rfl⟩
theorem tlen1 {cs : List Value} (h : cs.length = 1) : ∃ a, cs = [a] := by
  match cs, h with
  | [a], _ => exact ⟨a, rfl⟩
theorem rd_TyItem {H : Type} {enc : TypeId × Value → H} {W : World} {n : Nat} {cs : List Value} {x : DataW H × List MemPlace} (h : Rd enc Try.prog W n 186 cs x) : ∃ t : TyI, tyR (hp W) cs t := by
  obtain ⟨hl, m, hf⟩ := rd_fields Try.underlying186 h
  rw [cells_TyItem] at hl
  obtain ⟨a, b, c, rfl⟩ := tlen3 hl
  simp only [List.forall_mem_cons, cells_tint, cells_tstring] at hf
  obtain ⟨⟨_, h0⟩, ⟨_, h1⟩, ⟨_, h2⟩, _⟩ := hf
  obtain ⟨k0, e0, -, z0⟩ := DataW.trod_int Try.underlying3 h0
  obtain ⟨k1, e1, -, hs⟩ := DataW.trod_string Try.underlying9 h1
  obtain ⟨k2, e2, -, z2⟩ := DataW.trod_int Try.underlying3 h2
  simp at e0 e1 e2
  subst e0 e1 e2
  exact ⟨⟨k0, k1, k2⟩, rfl, i64_of z0, hs, i64_of z2⟩
theorem rd_tys {H : Type} {enc : TypeId × Value → H} {W : World} {n : Nat} {cs : List Value} {x : DataW H × List MemPlace} (h : Rd enc Try.prog W n 171 cs x) : ∃ v xs, cs = [v] ∧ TyS (hp W) v xs :=
  rd_slice 3 tyR Try.underlying171 cells_TyItem (by decide) (fun n cs' y hy => rd_TyItem hy) h
theorem rd_Ty {H : Type} {enc : TypeId × Value → H} {W : World} {n : Nat} {cs : List Value} {x : DataW H × List MemPlace} (h : Rd enc Try.prog W n 173 cs x) : ∃ v xs, cs = [v] ∧ TyS (hp W) v xs := by
  obtain ⟨hl, m, hf⟩ := rd_fields Try.underlying173 h
  rw [cells_Ty] at hl
  obtain ⟨a, rfl⟩ := tlen1 hl
  simp only [List.forall_mem_cons, cells_tys] at hf
  obtain ⟨⟨_, h0⟩, _⟩ := hf
  obtain ⟨v, xs, e, hx⟩ := rd_tys h0
  simp at e
  subst e
  exact ⟨_, xs, rfl, hx⟩

def TyI.val (x : TyI) : Value := .agg #[.int .i64 x.v, .string x.name, .int .i64 x.ar]
theorem laws_szTyItem (w : World) (x y : Int) (s : ByteArray) (hs : s.size ≤ maxLen) (left : Int) (h0 : 0 ≤ left) (h1 : left ≤ 1048576) :
    Calls Try.prog 144 #[.agg #[.int .i64 x, .string s, .int .i64 y], .int .i64 left] w fun e w' => e = .returned (.int .i64 (if left < s.size then -1 else left - s.size)) ∧ Below w.heap.size w w' := by
  unfold maxLen at hs
  by_cases h : left < s.size
  · rw [if_pos h]
    go_enter Try.func144, Try.ntmps144
    go_wp2
    go_ret
    exact ⟨rfl, (by repeat (first | with_reducible exact Below.refl _ _ | with_reducible assumption | with_reducible refine Below.setCell ?_ ?_ _ | with_reducible refine Below.alloc ?_ ?_ _ | with_reducible refine Below.drew ?_ | (with_reducible apply below_chain; with_reducible assumption) | exact Nat.le_refl _ | omega | (simp <;> omega)))⟩
  · rw [if_neg h]
    go_enter Try.func144, Try.ntmps144
    go_wp2
    go_ret
    exact ⟨rfl, (by repeat (first | with_reducible exact Below.refl _ _ | with_reducible assumption | with_reducible refine Below.setCell ?_ ?_ _ | with_reducible refine Below.alloc ?_ ?_ _ | with_reducible refine Below.drew ?_ | (with_reducible apply below_chain; with_reducible assumption) | exact Nat.le_refl _ | omega | (simp <;> omega)))⟩
theorem laws_toTyItem (w : World) (x y : Int) (s : ByteArray) :
    Calls Try.prog 145 #[.agg #[.int .i64 x, .string s, .int .i64 y]] w fun e w' => e = .returned (.agg #[.int .i64 x, .string s, .int .i64 y]) ∧ Below w.heap.size w w' := by
  go_enter Try.func145, Try.ntmps145
  go_wp2
  exact bodyPost_ret (v := .agg #[.int .i64 x, .string s, .int .i64 y]) (by simp [results, Try.results145, go_sem]) rfl ⟨rfl, (by repeat (first | with_reducible exact Below.refl _ _ | with_reducible assumption | with_reducible refine Below.setCell ?_ ?_ _ | with_reducible refine Below.alloc ?_ ?_ _ | with_reducible refine Below.drew ?_ | (with_reducible apply below_chain; with_reducible assumption) | exact Nat.le_refl _ | omega | (simp <;> omega)))⟩
theorem laws_eqTyItem (w : World) (x y : Int) (s : ByteArray) :
    Calls Try.prog 146 #[.agg #[.int .i64 x, .string s, .int .i64 y], .agg #[.int .i64 x, .string s, .int .i64 y]] w fun e w' => e = .returned (.bool true) ∧ Below w.heap.size w w' := by
  go_enter Try.func146, Try.ntmps146
  go_wp2
  go_ret
  exact ⟨rfl, (by repeat (first | with_reducible exact Below.refl _ _ | with_reducible assumption | with_reducible refine Below.setCell ?_ ?_ _ | with_reducible refine Below.alloc ?_ ?_ _ | with_reducible refine Below.drew ?_ | (with_reducible apply below_chain; with_reducible assumption) | exact Nat.le_refl _ | omega | (simp <;> omega)))⟩
end Go.Proofs.Ytokjkmibnjfkaaa
