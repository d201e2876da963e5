/- The cursor over the bytes of a draw: l01New, l01Byte, l01Below, l01Raw. -/
import Derived.Test.YtallaohjlncajaaOwn
import Derived.Test.YtallaohjlncajaaStrWalks
import Derived.Test.YtallaohjlncajaaNum
import Derived.Deep.QuietTactic
import Derived.BigQuiet
namespace Go.Proofs.Ytallaohjlncajaa
set_option linter.unusedVariables false
open Go.RowKit Go.ChangeShapes Go.WideShapes

/-- one byte. -/
def bytR (_ : Hp) (r : List Value) (z : Int) : Prop := r = [.int .u8 z] ∧ 0 ≤ z ∧ z < 256
abbrev BytS (h : Hp) (v : Value) (zs : List Int) : Prop := SlOf 1 bytR h v zs
theorem cells_byte : Try.prog.cellsOf 5 = 1 := by kernel_rfl
theorem rd_bytes {H : Type} {enc : TypeId × Value → H} {W : World} {n : Nat} {cs : List Value} {x : DataW H × List MemPlace} (h : Rd enc Try.prog W n 48 cs x) : ∃ v zs, cs = [v] ∧ BytS (hp W) v zs :=
  rd_slice 1 bytR Try.underlying48 cells_byte (by decide) (fun n cs' y hy => by
    obtain ⟨z, e, -, hz⟩ := DataW.trod_int Try.underlying5 hy
    refine ⟨z, e, ?_⟩
    simp only [Lit.wf, IntKind.min, IntKind.max, IntKind.signed, IntKind.bits, Bool.and_eq_true] at hz
    simp at hz
    omega) h
theorem BytS.cell {h : Hp} {a : Option Addr} {n c : Nat} {zs : List Int} (x : BytS h (.slice a n c) zs) {i : Nat} (hi : i < zs.length) :
    ∃ b off, a = some ⟨b, off, none⟩ ∧ ∀ j (hj : j < zs.length) (w : World), Sub h w → w.cell? ⟨b, off + j, none⟩ = some (.int .u8 zs[j]) ∧ 0 ≤ zs[j] ∧ zs[j] < 256 := by
  obtain ⟨a', c', e, _, _, r⟩ := x
  injection e with e1 e2 e3
  subst e1
  rcases r with rfl | ⟨b, off, ea, hc⟩
  · simp at hi
  · refine ⟨b, off, ea, fun j hj w hw => ?_⟩
    obtain ⟨r, hr1, hr2, hr3⟩ := hc j hj
    rw [hr3.1] at hr2
    have := hr2.cell hw (i := 0) (by simp)
    rw [Nat.mul_one] at this
    exact ⟨by simpa using this, hr3.2⟩

/-- block p holds a cursor; h is what else is known to stay. -/
structure CurAt (w : World) (h : Hp) (p : Nat) (sl : Value) (zs : List Int) : Prop where
  sub : Sub h w
  out : h p = none
  cur : ∃ (k : Nat) (hh : Int), k ≤ zs.length ∧ w.heap[p]? = some (.cells #[sl, .int .i64 k, .int .i64 hh] 78 (0, 0))
  bytes : BytS h sl zs
theorem cur_mk {w : World} {h : Hp} {p : Nat} {sl : Value} {zs : List Int} {hh : Int} (s : Sub h w) (o : h p = none) (k : Nat) (hk : k ≤ zs.length) (e : w.heap[p]? = some (.cells #[sl, .int .i64 k, .int .i64 hh] 78 (0, 0))) (b : BytS h sl zs) : CurAt w h p sl zs :=
  ⟨s, o, ⟨k, hh, hk, e⟩, b⟩
theorem heap_set {w : World} {p j : Nat} {c : Array Value} {e : TypeId} {f : Nat × Nat} (h : w.heap[p]? = some (.cells c e f)) (u : Value) : (w.setCell ⟨p, j, none⟩ u).heap[p]? = some (.cells (c.setIfInBounds j u) e f) := by
  simp [World.setCell, Array.getElem?_modify, h]
theorem heap_set1 {w : World} {p : Nat} {a b c : Value} {e : TypeId} {f : Nat × Nat} (h : w.heap[p]? = some (.cells #[a, b, c] e f)) (u : Value) (n : Nat) : ((w.setCell ⟨p, 2, none⟩ u).drewN n).heap[p]? = some (.cells #[a, b, u] e f) :=
  heap_set (j := 2) h u
theorem heap_set2 {w : World} {p : Nat} {a b c : Value} {e : TypeId} {f : Nat × Nat} (h : w.heap[p]? = some (.cells #[a, b, c] e f)) (u v : Value) (n : Nat) : (((w.setCell ⟨p, 2, none⟩ u).drewN n).setCell ⟨p, 1, none⟩ v).heap[p]? = some (.cells #[a, v, u] e f) :=
  heap_set (j := 1) (heap_set1 h u n) v
theorem grown_set {w w' : World} {p j : Nat} (h : w.grownBy w' (some p)) (u : Value) : w.grownBy (w'.setCell ⟨p, j, none⟩ u) (some p) :=
  ⟨h.os, h.tape, h.output, by simpa [World.setCell] using h.size, fun k hk hne => by
    rw [Below.heap_setCell _ _ _ _ (by intro e; exact hne (by rw [e]))]; exact h.block k hk hne⟩
theorem grown_drewN {w w' : World} {r : Option Nat} (h : w.grownBy w' r) (n : Nat) : w.grownBy (w'.drewN n) r := ⟨h.os, h.tape, h.output, h.size, h.block⟩
theorem grown_refl (w : World) (r : Option Nat) : w.grownBy w r := ⟨rfl, rfl, rfl, Nat.le_refl _, fun _ _ _ => rfl⟩
theorem grown_trans {a b c : World} {p : Nat} (h : a.grownBy b (some p)) (k : b.grownBy c (some p)) : a.grownBy c (some p) :=
  ⟨k.os.trans h.os, k.tape.trans h.tape, k.output.trans h.output, Nat.le_trans h.size k.size, fun i hi hne => (k.block i (Nat.lt_of_lt_of_le hi h.size) hne).trans (h.block i hi hne)⟩
theorem sub_grown {h : Hp} {w w' : World} {p : Nat} (s : Sub h w) (hp : h p = none) (g : w.grownBy w' (some p)) : Sub h w' := fun b o e => by
  have : b ≠ p := by rintro rfl; rw [hp] at e; cases e
  rw [g.block b (s.lt e) (by simpa using this)]; exact s b o e
theorem CurAt.lt {w : World} {h : Hp} {p : Nat} {sl : Value} {zs : List Int} (c : CurAt w h p sl zs) : p < w.heap.size := by
  obtain ⟨s, o, ⟨k, hh, hk, e⟩, hb⟩ := c
  exact (Array.getElem?_eq_some_iff.mp e).1
theorem CurAt.alloc {w : World} {h : Hp} {p : Nat} {sl : Value} {zs : List Int} (c : CurAt w h p sl zs) (b : Obj) : CurAt (w.alloc b) h p sl zs := by
  obtain ⟨s, o, ⟨k, hh, hk, e⟩, hb⟩ := c
  refine ⟨s.alloc b, o, ⟨k, hh, hk, ?_⟩, hb⟩
  have hp := (Array.getElem?_eq_some_iff.mp e).1
  show (w.heap.push b)[p]? = _
  rw [Array.getElem?_push_lt hp, ← Array.getElem?_eq_getElem hp, e]
theorem bits_and_mask (x : Int) : bits BinOp.and IntKind.i64 x 255 = x % 256 := by
  have h1 : (BitVec.ofInt 64 x &&& BitVec.ofInt 64 255).toNat = (x % 256).toNat := by
    rw [BitVec.toNat_and]
    have e1 : (BitVec.ofInt 64 (255 : Int)).toNat = 2 ^ 8 - 1 := by decide
    rw [e1, Nat.and_two_pow_sub_one_eq_mod, BitVec.toNat_ofInt]
    omega
  have e : bits BinOp.and IntKind.i64 x 255 = IntKind.i64.wrap ((BitVec.ofInt 64 x &&& BitVec.ofInt 64 255).toNat : Int) := rfl
  rw [e, h1, IntWalk.i64_in _ (by omega)]
  omega
/-- what a reader of the cursor answers. -/
def DrawPost (w : World) (h : Hp) (p : Nat) (sl : Value) (zs : List Int) (lo hi : Int) (e : Ending) (w' : World) : Prop :=
  ∃ x : Int, e = .returned (.int .i64 x) ∧ lo ≤ x ∧ x ≤ hi ∧ CurAt w' h p sl zs ∧ w.grownBy w' (some p)
theorem spec_l01Byte (w : World) (h : Hp) (p : Nat) (sl : Value) (zs : List Int) (hc : CurAt w h p sl zs) :
    Calls Try.prog 86 #[.pointer (some ⟨p, 0, none⟩)] w fun e w' => DrawPost w h p sl zs 0 255 e w' := by
  obtain ⟨hsub, hout, ⟨k, hh, hk, hcur⟩, hbs⟩ := hc
  have HB := Lib.hid hbs
  obtain ⟨a, c, rfl, hc1, hc2, -⟩ := hbs
  unfold maxLen at hc2
  have c0 : w.cell? ⟨p, 0, none⟩ = some (.slice a zs.length c) := by simp [World.cell?, hcur]
  have c1 : w.cell? ⟨p, 1, none⟩ = some (.int .i64 k) := by simp [World.cell?, hcur]
  have c2 : w.cell? ⟨p, 2, none⟩ = some (.int .i64 hh) := by simp [World.cell?, hcur]
  have f1 : w.frozen? ⟨p, 1, none⟩ = false := by simp [World.frozen?, hcur]
  have f2 : w.frozen? ⟨p, 2, none⟩ = false := by simp [World.frozen?, hcur]
  have HC := Lib.hid hcur
  have HS := Lib.hid hsub
  have HO := Lib.hid hout
  clear hcur hsub hout
  by_cases hlt : k < zs.length
  · obtain ⟨b, off, rfl, hcell⟩ := HB.out.cell hlt
    obtain ⟨cb, z0, z1⟩ := hcell k hlt w HS.out
    have hbp : b ≠ p := by
      rintro rfl
      obtain ⟨a', c', e, _, _, r⟩ := HB.out
      injection e with e1 e2 e3
      subst e1
      rcases r with rfl | ⟨b', off', ea, hc⟩
      · simp at hlt
      · obtain ⟨_, _, ⟨_, _, _, hb, _⟩, _⟩ := hc k hlt
        injection ea with ea
        injection ea with ea
        rw [← ea, HO.out] at hb
        cases hb
    have hbp' : ¬ p = b := fun e => hbp e.symm
    have hk1 : (k : Int) < zs.length := by omega
    clear hcell
    go_enter Try.func86, Try.ntmps86
    go_wp2
    go_quiet (fail)
    go_wp2
    go_quiet (fail)
    go_wp2
    go_quiet (fail)
    go_wp2
    go_ret
    refine ⟨_, rfl, ?_, ?_, cur_mk ((HS.out.setCell HO.out _).setCell HO.out _) HO.out (k + 1) (by omega) (heap_set2 HC.out _ _ _) HB.out, ?_⟩
    · rw [bits_and_mask]; omega
    · rw [bits_and_mask]; omega
    · first | exact grown_drewN (grown_set (grown_drewN (grown_set (grown_refl _ _) _) _) _) _ | exact grown_set (grown_drewN (grown_set (grown_refl _ _) _) _) _
  · have hk1 : (zs.length : Int) ≤ (k : Int) := by omega
    go_enter Try.func86, Try.ntmps86
    go_wp2
    go_quiet (fail)
    go_wp2
    go_quiet (fail)
    go_wp2
    go_ret
    refine ⟨_, rfl, ?_, ?_, cur_mk (HS.out.setCell HO.out _) HO.out k (by omega) (heap_set (j := 2) HC.out _) HB.out, ?_⟩
    · rw [bits_and_mask]; omega
    · rw [bits_and_mask]; omega
    · exact grown_drewN (grown_drewN (grown_set (grown_refl _ _) _) _) _

theorem spec_l01Below (w : World) (h : Hp) (p : Nat) (sl : Value) (zs : List Int) (hc : CurAt w h p sl zs) (n : Int) (hn : 0 < n) (hn2 : n ≤ 4294967296) :
    Calls Try.prog 77 #[.pointer (some ⟨p, 0, none⟩), .int .i64 n] w fun e w' => DrawPost w h p sl zs 0 (n - 1) e w' := by
  by_cases h256 : n ≤ 256
  · go_enter Try.func77, Try.ntmps77
    go_wp2_with fail
    refine (spec_l01Byte _ h p sl zs hc).mono ?_
    rintro e w1 ⟨x, rfl, x0, x1, hc1, g1⟩
    go_wp2_with fail
    go_ret
    exact ⟨_, rfl, Int.emod_nonneg _ (by omega), by have := Int.emod_lt_of_pos x hn; omega, hc1, g1⟩
  · go_enter Try.func77, Try.ntmps77
    go_wp2_with fail
    refine (spec_l01Byte _ h p sl zs hc).mono ?_
    rintro e w1 ⟨x, rfl, x0, x1, hc1, g1⟩
    go_wp2_with fail
    refine (spec_l01Byte _ h p sl zs hc1).mono ?_
    rintro e w2 ⟨y, rfl, y0, y1, hc2, g2⟩
    go_wp2_with fail
    refine (spec_l01Byte _ h p sl zs hc2).mono ?_
    rintro e w3 ⟨z, rfl, z0, z1, hc3, g3⟩
    go_wp2_with fail
    refine (spec_l01Byte _ h p sl zs hc3).mono ?_
    rintro e w4 ⟨u, rfl, u0, u1, hc4, g4⟩
    go_wp2_with fail
    go_ret
    refine ⟨_, rfl, Int.emod_nonneg _ (by omega), ?_, hc4, grown_trans (grown_trans (grown_trans g1 g2) g3) g4⟩
    have := Int.emod_lt_of_pos (x * 16777216 + y * 65536 + z * 256 + u) hn
    omega
theorem spec_l01Raw (w : World) (h : Hp) (p : Nat) (sl : Value) (zs : List Int) (hc : CurAt w h p sl zs) :
    Calls Try.prog 76 #[.pointer (some ⟨p, 0, none⟩)] w fun e w' => DrawPost w h p sl zs (-9223372036854775808) 9223372036854775807 e w' := by
  go_enter Try.func76, Try.ntmps76
  go_wp2_with fail
  refine (spec_l01Below _ h p sl zs hc 11 (by omega) (by omega)).mono ?_
  rintro e w1 ⟨x, rfl, x0, x1, hc1, g1⟩
  have hx : x < 4 ∨ x = 4 ∨ x = 5 ∨ x = 6 ∨ x = 7 ∨ x = 8 ∨ 8 < x := by omega
  rcases hx with hx | rfl | rfl | rfl | rfl | rfl | hx
  · go_wp2_with fail
    refine (spec_l01Below _ h p sl zs hc1 20 (by omega) (by omega)).mono ?_
    rintro e w2 ⟨y, rfl, y0, y1, hc2, g2⟩
    go_wp2_with fail
    go_ret
    exact ⟨_, rfl, by omega, by omega, hc2, grown_trans g1 g2⟩
  · go_wp2_with fail
    refine (spec_l01Below _ h p sl zs hc1 3 (by omega) (by omega)).mono ?_
    rintro e w2 ⟨y, rfl, y0, y1, hc2, g2⟩
    go_wp2_with fail
    go_ret
    exact ⟨_, rfl, by omega, by omega, hc2, grown_trans g1 g2⟩
  · go_wp2_with fail
    refine (spec_l01Below _ h p sl zs hc1 3 (by omega) (by omega)).mono ?_
    rintro e w2 ⟨y, rfl, y0, y1, hc2, g2⟩
    go_wp2_with fail
    go_ret
    exact ⟨_, rfl, by omega, by omega, hc2, grown_trans g1 g2⟩
  · go_wp2_with fail
    refine (spec_l01Below _ h p sl zs hc1 2 (by omega) (by omega)).mono ?_
    rintro e w2 ⟨y, rfl, y0, y1, hc2, g2⟩
    go_wp2_with fail
    go_ret
    exact ⟨_, rfl, by omega, by omega, hc2, grown_trans g1 g2⟩
  · go_wp2_with fail
    refine (spec_l01Below _ h p sl zs hc1 2 (by omega) (by omega)).mono ?_
    rintro e w2 ⟨y, rfl, y0, y1, hc2, g2⟩
    go_wp2_with fail
    go_ret
    refine ⟨_, rfl, ?_, ?_, hc2, grown_trans g1 g2⟩ <;> (try unfold wrap64) <;> omega
  · go_wp2_with fail
    refine (spec_l01Below _ h p sl zs hc1 63 (by omega) (by omega)).mono ?_
    rintro e w2 ⟨y, rfl, y0, y1, hc2, g2⟩
    go_wp2_with fail
    go_ret
    refine ⟨_, rfl, ?_, ?_, hc2, grown_trans g1 g2⟩ <;> (try unfold wrap64) <;> omega
  · have t4 : (x == 4) = false := by simp; omega
    have t5 : (x == 5) = false := by simp; omega
    have t6 : (x == 6) = false := by simp; omega
    have t7 : (x == 7) = false := by simp; omega
    have t8 : (x == 8) = false := by simp; omega
    go_wp2_with fail
    refine (spec_l01Below _ h p sl zs hc1 65536 (by omega) (by omega)).mono ?_
    rintro e w2 ⟨y, rfl, y0, y1, hc2, g2⟩
    go_wp2_with fail
    refine (spec_l01Below _ h p sl zs hc2 65536 (by omega) (by omega)).mono ?_
    rintro e w3 ⟨z, rfl, z0, z1, hc3, g3⟩
    go_wp2_with fail
    refine (spec_l01Below _ h p sl zs hc3 1000 (by omega) (by omega)).mono ?_
    rintro e w4 ⟨u, rfl, u0, u1, hc4, g4⟩
    go_wp2_with fail
    go_ret
    refine ⟨_, rfl, ?_, ?_, hc4, grown_trans (grown_trans (grown_trans g1 g2) g3) g4⟩ <;> (try unfold wrap64) <;> omega

/-- a new cursor. -/
def NewPost (w : World) (h : Hp) (sl : Value) (zs : List Int) (e : Ending) (w' : World) : Prop :=
  ∃ p : Nat, e = .returned (.pointer (some ⟨p, 0, none⟩)) ∧ w.heap.size ≤ p ∧ CurAt w' h p sl zs ∧ Below w.heap.size w w'
set_option maxRecDepth 100000 in
theorem spec_l01New (w : World) (h : Hp) (hs : Sub h w) (sl : Value) (zs : List Int) (hb : BytS h sl zs) :
    Calls Try.prog 75 #[sl] w fun e w' => NewPost w h sl zs e w' := by
  have HB := Lib.hid hb
  obtain ⟨a, c, rfl, hc1, hc2, -⟩ := hb
  unfold maxLen at hc2
  have HS := Lib.hid hs
  have HN := Lib.hid (hs.none (Nat.le_refl _))
  clear hs
  go_enter Try.func75, Try.ntmps75
  go_wp2
  go_loop [3, 4] (fun hv i => ∃ (k : Nat) (hh : Int), k ≤ zs.length ∧ i = .int .i64 k ∧ hv = .int .i64 hh) (fun _ i => zs.length - (intOf i).toNat)
  case atStart => exact ⟨0, _, by omega, rfl, rfl⟩
  case round =>
    obtain ⟨k, hh, hk, rfl, rfl⟩ := hrel
    by_cases hlt : k < zs.length ∧ k < 4000
    · obtain ⟨hlt, h4⟩ := hlt
      obtain ⟨b, off, rfl, hcell⟩ := HB.out.cell hlt
      obtain ⟨cb, z0, z1⟩ := hcell k hlt w HS.out
      clear hcell
      go_wp2
      go_round
      case rel => exact ⟨k + 1, _, by omega, by go_num, rfl⟩
      case measure => simp [intOf]; omega
    · by_cases h4 : k < zs.length
      · have h5 : ¬ (k : Int) < 4000 := by omega
        have h6 : (k : Int) < zs.length := by omega
        clear hlt
        go_wp2
        go_ret
        exact ⟨_, rfl, Nat.le_refl _, cur_mk (hh := hh) (HS.out.alloc _) HN.out 0 (by omega) (by show (w.heap.push _)[w.heap.size]? = _; simp) HB.out, (Below.refl _ _).alloc (Nat.le_refl _) _⟩
      · have h6 : ¬ (k : Int) < zs.length := by omega
        clear hlt
        go_wp2
        go_ret
        exact ⟨_, rfl, Nat.le_refl _, cur_mk (hh := hh) (HS.out.alloc _) HN.out 0 (by omega) (by show (w.heap.push _)[w.heap.size]? = _; simp) HB.out, (Below.refl _ _).alloc (Nat.le_refl _) _⟩
/-- draws of numbers: two results. -/
def TwoPost (w : World) (e : Ending) (w' : World) : Prop := ∃ x y : Int, e = .returned (.tuple #[.int .i64 x, .int .i64 y]) ∧ (-9223372036854775808 ≤ x ∧ x ≤ 9223372036854775807) ∧ (-9223372036854775808 ≤ y ∧ y ≤ 9223372036854775807) ∧ Below w.heap.size w w'
def OnePost (w : World) (e : Ending) (w' : World) : Prop := ∃ x : Int, e = .returned (.int .i64 x) ∧ (-9223372036854775808 ≤ x ∧ x ≤ 9223372036854775807) ∧ Below w.heap.size w w'
theorem below_grown {w a b : World} {p : Nat} (h : Below w.heap.size w a) (g : a.grownBy b (some p)) (hp : w.heap.size ≤ p) : Below w.heap.size w b :=
  h.grown g h.size (fun k hk => by injection hk with hk; omega)
theorem spec_DrawWrap (w : World) (h : Hp) (hs : Sub h w) (sl : Value) (zs : List Int) (hb : BytS h sl zs) :
    Calls Try.prog 51 #[sl] w fun e w' => OnePost w e w' := by
  go_enter Try.func51, Try.ntmps51
  go_wp2_with fail
  refine (spec_l01New _ h hs sl zs hb).mono ?_
  rintro e w1 ⟨p, rfl, hp, hc1, b1⟩
  go_wp2_with fail
  refine (spec_l01Raw _ h p sl zs hc1).mono ?_
  rintro e w2 ⟨x, rfl, x0, x1, hc2, g2⟩
  go_wp2_with fail
  go_ret
  exact ⟨x, rfl, ⟨x0, x1⟩, below_grown b1 g2 hp⟩
theorem spec_DrawAddW (w : World) (h : Hp) (hs : Sub h w) (sl : Value) (zs : List Int) (hb : BytS h sl zs) :
    Calls Try.prog 50 #[sl] w fun e w' => TwoPost w e w' := by
  go_enter Try.func50, Try.ntmps50
  go_wp2_with fail
  refine (spec_l01New _ h hs sl zs hb).mono ?_
  rintro e w1 ⟨p, rfl, hp, hc1, b1⟩
  go_wp2_with fail
  refine (spec_l01Raw _ h p sl zs hc1).mono ?_
  rintro e w2 ⟨x, rfl, x0, x1, hc2, g2⟩
  go_wp2_with fail
  refine (spec_l01Raw _ h p sl zs hc2).mono ?_
  rintro e w3 ⟨y, rfl, y0, y1, hc3, g3⟩
  go_wp2_with fail
  go_ret2
  exact ⟨x, y, rfl, ⟨x0, x1⟩, ⟨y0, y1⟩, below_grown b1 (grown_trans g2 g3) hp⟩
theorem spec_DrawDivW (w : World) (h : Hp) (hs : Sub h w) (sl : Value) (zs : List Int) (hb : BytS h sl zs) :
    Calls Try.prog 52 #[sl] w fun e w' => TwoPost w e w' := by
  go_enter Try.func52, Try.ntmps52
  go_wp2_with fail
  refine (spec_l01New _ h hs sl zs hb).mono ?_
  rintro e w1 ⟨p, rfl, hp, hc1, b1⟩
  go_wp2_with fail
  refine (spec_l01Raw _ h p sl zs hc1).mono ?_
  rintro e w2 ⟨x, rfl, x0, x1, hc2, g2⟩
  go_wp2_with fail
  refine (spec_l01Raw _ h p sl zs hc2).mono ?_
  rintro e w3 ⟨y, rfl, y0, y1, hc3, g3⟩
  go_wp2_with fail
  refine (spec_l01Below _ h p sl zs hc3 6 (by omega) (by omega)).mono ?_
  rintro e w4 ⟨u, rfl, u0, u1, hc4, g4⟩
  have b4 := below_grown b1 (grown_trans (grown_trans g2 g3) g4) hp
  by_cases hu : u = 0
  · subst hu
    go_wp2_with fail
    have hc5 : CurAt (w4.alloc (.cells #[.int .i64 0, .int .i64 (-1), .int .i64 1] 3 (0, 0))) h p sl zs := hc4.alloc _
    refine (spec_l01Below _ h p sl zs hc5 3 (by omega) (by omega)).mono ?_
    rintro e w5 ⟨t, rfl, t0, t1, hc6, g5⟩
    have hpl := hc4.lt
    have hk5 : w5.heap[w4.heap.size]? = some (.cells #[.int .i64 0, .int .i64 (-1), .int .i64 1] 3 (0, 0)) := by
      rw [g5.block w4.heap.size (by show _ < (w4.heap.push _).size; simp) (by simp; omega)]
      show (w4.heap.push _)[w4.heap.size]? = _
      simp
    have b5 : Below w.heap.size w w5 := below_grown (b4.alloc b4.size _) g5 hp
    have k0 : w5.cell? ⟨w4.heap.size, 0, none⟩ = some (.int .i64 0) := by simp [World.cell?, hk5]
    have k1 : w5.cell? ⟨w4.heap.size, 1, none⟩ = some (.int .i64 (-1)) := by simp [World.cell?, hk5]
    have k2 : w5.cell? ⟨w4.heap.size, 2, none⟩ = some (.int .i64 1) := by simp [World.cell?, hk5]
    clear hk5 hc5 hc6 g5 g4 g3 g2 b4
    have ht : t = 0 ∨ t = 1 ∨ t = 2 := by omega
    rcases ht with rfl | rfl | rfl
    all_goals
      go_wp2_with fail
      go_ret2
      exact ⟨_, _, rfl, by omega, by omega, b5⟩
  · have tu : (u == 0) = false := by simpa using hu
    go_wp2_with fail
    go_ret2
    exact ⟨x, y, rfl, ⟨x0, x1⟩, ⟨y0, y1⟩, b4⟩
end Go.Proofs.Ytallaohjlncajaa
