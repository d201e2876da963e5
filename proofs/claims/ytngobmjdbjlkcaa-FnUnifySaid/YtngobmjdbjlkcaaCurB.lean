import Derived.Test.YtngobmjdbjlkcaaBase
import Derived.Test.YtngobmjdbjlkcaaHaB
import Derived.Deep.QuietTactic
import Derived.BigQuiet
import Derived.Test.YtngobmjdbjlkcaaGz
/- The draws' cursor by the elder road: what it answers, exactly; and over the second engine. -/
namespace Go.Proofs.Ytngobmjdbjlkcaa
set_option linter.unusedVariables false
set_option linter.unusedSimpArgs false
open Go.RowKit Go.ChangeShapes Go.WideShapes
/-- what may have changed: block p alone, and what is new. -/
structure OnlyP (ty : TypeId) (p : Nat) (cs : Array Value) (w w' : World) : Prop where
  os : w'.os = w.os
  tape : w'.tape = w.tape
  output : w'.output = w.output
  size : w.heap.size ≤ w'.heap.size
  other : ∀ b, b < w.heap.size → b ≠ p → w'.heap[b]? = w.heap[b]?
  at_p : w'.heap[p]? = some (.cells cs ty (0, 0))
def curH (h : Int) : Int := wrap64 (wrap64 (h * 6364136223846793005) + 1442695040888963407)
def curX (H : Int) : Int := bits BinOp.and IntKind.i64 (bits BinOp.xor IntKind.i64 (H / 8589934592) (H / 35184372088832)) 255
def curY (H z : Int) : Int := bits BinOp.and IntKind.i64 (wrap64 (curX H + z)) 255
theorem bits_and_mask (x : Int) : bits BinOp.and IntKind.i64 x 255 = x % 256 := by
  have h1 : (BitVec.ofInt 64 x &&& BitVec.ofInt 64 255).toNat = (x % 256).toNat := by
    rw [BitVec.toNat_and]
    have e1 : (BitVec.ofInt 64 (255 : Int)).toNat = 2 ^ 8 - 1 := by decide
    rw [e1, Nat.and_two_pow_sub_one_eq_mod, BitVec.toNat_ofInt]
    omega
  have e : bits BinOp.and IntKind.i64 x 255 = IntKind.i64.wrap ((BitVec.ofInt 64 x &&& BitVec.ofInt 64 255).toNat : Int) := rfl
  rw [e, h1, IntWalk.i64_in _ (by omega)]
  omega
theorem curX_bd (H : Int) : 0 ≤ curX H ∧ curX H ≤ 255 := by unfold curX; rw [bits_and_mask]; omega
theorem curY_bd (H z : Int) : 0 ≤ curY H z ∧ curY H z ≤ 255 := by unfold curY; rw [bits_and_mask]; omega
theorem curH_bd (h : Int) : -9223372036854775808 ≤ curH h ∧ curH h ≤ 9223372036854775807 := by unfold curH wrap64; omega
theorem heap_set {w : World} {p j : Nat} {c : Array Value} {e : TypeId} {f : Nat × Nat} (h : w.heap[p]? = some (.cells c e f)) (u : Value) : (w.setCell ⟨p, j, none⟩ u).heap[p]? = some (.cells (c.setIfInBounds j u) e f) := by
  simp [World.setCell, Array.getElem?_modify, h]
theorem heap_set1 {w : World} {p : Nat} {a b c : Value} {e : TypeId} {f : Nat × Nat} (h : w.heap[p]? = some (.cells #[a, b, c] e f)) (u : Value) (n : Nat) : ((w.setCell ⟨p, 2, none⟩ u).drewN n).heap[p]? = some (.cells #[a, b, u] e f) :=
  heap_set (j := 2) h u
theorem heap_set2 {w : World} {p : Nat} {a b c : Value} {e : TypeId} {f : Nat × Nat} (h : w.heap[p]? = some (.cells #[a, b, c] e f)) (u v : Value) (n : Nat) : (((w.setCell ⟨p, 2, none⟩ u).drewN n).setCell ⟨p, 1, none⟩ v).heap[p]? = some (.cells #[a, v, u] e f) :=
  heap_set (j := 1) (heap_set1 h u n) v
theorem other_set (w : World) (p j : Nat) (u : Value) (b : Nat) (h : b ≠ p) : (w.setCell ⟨p, j, none⟩ u).heap[b]? = w.heap[b]? := Below.heap_setCell _ _ _ _ (by simpa using h)
theorem l01Byte_some (w : World) (ty : TypeId) (p b off n c k : Nat) (hh z : Int) (hp : w.heap[p]? = some (.cells #[.slice (some ⟨b, off, none⟩) n c, .int .i64 k, .int .i64 hh] ty (0, 0))) (hn : n ≤ maxLen) (hk : k < n) (hz : w.cell? ⟨b, off + k, none⟩ = some (.int .u8 z)) (hbp : b ≠ p) (z0 : 0 ≤ z) (z1 : z < 256) :
    Calls Try.prog 104 #[.pointer (some ⟨p, 0, none⟩)] w fun e w' => e = .returned (.int .i64 (curY (curH hh) z)) ∧ OnlyP ty p #[.slice (some ⟨b, off, none⟩) n c, .int .i64 (k + 1), .int .i64 (curH hh)] w w' := by
  unfold maxLen at hn
  have c0 : w.cell? ⟨p, 0, none⟩ = some (.slice (some ⟨b, off, none⟩) n c) := by simp [World.cell?, hp]
  have c1 : w.cell? ⟨p, 1, none⟩ = some (.int .i64 k) := by simp [World.cell?, hp]
  have c2 : w.cell? ⟨p, 2, none⟩ = some (.int .i64 hh) := by simp [World.cell?, hp]
  have f1 : w.frozen? ⟨p, 1, none⟩ = false := by simp [World.frozen?, hp]
  have f2 : w.frozen? ⟨p, 2, none⟩ = false := by simp [World.frozen?, hp]
  have hbp' : ¬ p = b := fun e => hbp e.symm
  have hk1 : (k : Int) < n := by omega
  have HC := Lib.hid hp
  clear hp
  go_enter Try.func104, Try.ntmps104
  go_wp2
  go_quiet (fail)
  go_wp2
  go_quiet (fail)
  go_wp2
  go_quiet (fail)
  go_wp2
  go_ret
  refine ⟨rfl, ⟨rfl, rfl, rfl, by simp [World.setCell, World.drewN], fun b' hb' hne => ?_, heap_set2 HC.out _ _ _⟩⟩
  rw [other_set _ _ _ _ _ hne]
  exact other_set _ _ _ _ _ hne
theorem l01Byte_none (w : World) (ty : TypeId) (p n c k : Nat) (a : Option Addr) (hh : Int) (hp : w.heap[p]? = some (.cells #[.slice a n c, .int .i64 k, .int .i64 hh] ty (0, 0))) (hn : n ≤ maxLen) (hk : n ≤ k) :
    Calls Try.prog 104 #[.pointer (some ⟨p, 0, none⟩)] w fun e w' => e = .returned (.int .i64 (curX (curH hh))) ∧ OnlyP ty p #[.slice a n c, .int .i64 k, .int .i64 (curH hh)] w w' := by
  unfold maxLen at hn
  have c0 : w.cell? ⟨p, 0, none⟩ = some (.slice a n c) := by simp [World.cell?, hp]
  have c1 : w.cell? ⟨p, 1, none⟩ = some (.int .i64 k) := by simp [World.cell?, hp]
  have c2 : w.cell? ⟨p, 2, none⟩ = some (.int .i64 hh) := by simp [World.cell?, hp]
  have f1 : w.frozen? ⟨p, 1, none⟩ = false := by simp [World.frozen?, hp]
  have f2 : w.frozen? ⟨p, 2, none⟩ = false := by simp [World.frozen?, hp]
  have hk1 : (n : Int) ≤ (k : Int) := by omega
  have HC := Lib.hid hp
  clear hp
  go_enter Try.func104, Try.ntmps104
  go_wp2
  go_quiet (fail)
  go_wp2
  go_quiet (fail)
  go_wp2
  go_ret
  refine ⟨rfl, ⟨rfl, rfl, rfl, by simp [World.setCell, World.drewN], fun b' hb' hne => ?_, heap_set (j := 2) HC.out _⟩⟩
  exact other_set _ _ _ _ _ hne
/-! over the second engine. -/
def u8E (z : UInt8) : List D := [.s (.int .u8 z.toNat)]
theorem u8E_eq (z : UInt8) : u8E z = [.s (.int .u8 z.toNat)] := rfl
/-- the cursor: its bytes, its place, its number. -/
abbrev curD (zs : List UInt8) (k : Nat) (h : Int) : D := .opt [.sl 1 (zs.map u8E), .s (.int .i64 k), .s (.int .i64 h)]
def bytM (zs : List UInt8) (k : Nat) (h : Int) : Int := match zs[k]? with
  | some z => curY (curH h) z.toNat
  | none => curX (curH h)
def stepK (zs : List UInt8) (k : Nat) : Nat := if k < zs.length then k + 1 else k
theorem bytM_bd (zs : List UInt8) (k : Nat) (h : Int) : 0 ≤ bytM zs k h ∧ bytM zs k h ≤ 255 := by
  unfold bytM; split
  · exact curY_bd _ _
  · exact curX_bd _
theorem c_l01Byte (zs : List UInt8) (k : Nat) (h : Int) : FCon Try.prog 104 [curD zs k h] (fun r o => r = .s (.int .i64 (bytM zs k h)) ∧ o = [curD zs (stepK zs k) (curH h)]) := by
  refine ⟨fun vs w => ?_, fun w g vs hS hu hlen hv => ?_⟩
  · have h1 := Try.func104
    have hname' : ¬ Try.f104.name = "runtime.NumGoroutine" := by decide
    have hbn : ¬ Try.f104.body = none := by decide
    simp [callFunc, h1, hname', hbn]
  · obtain ⟨v, rfl, h0⟩ := one_arg (P := fun j d u => RA g w j d u) hlen hv
    have h0 : Rep g.S g.up w (some (.par 0 0)) (curD zs k h) v := h0
    cases h0 with
    | @opt _ _ p ty cs k1 k2 k3 k4 =>
      have hsz : p < w.heap.size := (hu p _ k1).1
      have hnS : ¬ g.S p := (hu p _ k1).2
      have r0 := k4 0 _ rfl
      have r1 := Rep.s_inv (k4 1 _ rfl)
      have r2 := Rep.s_inv (k4 2 _ rfl)
      generalize hsv : cs.getD 0 undef = sv at r0
      have hcs : cs = #[sv, .int .i64 k, .int .i64 h] := by
        apply Array.ext
        · simpa using k3
        · intro i h1 h2
          have e : cs[i] = cs.getD i undef := by rw [Array.getD_eq_getD_getElem?, Array.getElem?_eq_getElem h1]; rfl
          rw [e]
          have : i = 0 ∨ i = 1 ∨ i = 2 := by simp at h2; omega
          rcases this with rfl | rfl | rfl
          · exact hsv
          · exact r1
          · exact r2
      subst hcs
      have fin : ∀ (x : Int) (k' : Nat) (h' : Int) (w' : World), OnlyP ty p #[sv, .int .i64 k', .int .i64 h'] w w' → ∃ v' g' r outs, (Ending.returned (.int .i64 x) : Ending) = .returned v' ∧ Below 0 w w' ∧ (∀ b, b < w.heap.size → g.up b = none → w'.heap[b]? = w.heap[b]?) ∧ (∀ b, g.S b → Gh.S g' b) ∧ (∀ b, b < w.heap.size → g'.S b → g.S b ∨ g.up b ≠ none) ∧ (∀ b, g'.S b → b < w'.heap.size) ∧ (∀ b p, g'.up b = some p → b < w'.heap.size ∧ (b < w.heap.size → g.up b ≠ none) ∧ ¬ g'.S b) ∧ (r = .s (.int .i64 x) ∧ outs = [curD zs k' h']) ∧ RNs g' w' r v' ∧ ∀ (j : Nat) (d : D) (u : Value), outs[j]? = some d → [Value.pointer (some ⟨p, 0, none⟩)][j]? = some u → RU g' w' j d u := by
        intro x k' h' w' o
        have hup : ∀ b, b < w.heap.size → g.up b = none → w'.heap[b]? = w.heap[b]? := fun b q1 q2 => o.other b q1 (fun q => by subst q; rw [k1] at q2; cases q2)
        have mv : Mv (fun _ => False) (fun q => q) g g w w' := ⟨fun b hb => ⟨hb, o.other b (hS b hb) (fun q => hnS (q ▸ hb))⟩, fun b q _ f => f.elim, fun b q o' _ f => f.elim⟩
        refine ⟨_, g, .s (.int .i64 x), _, rfl, ⟨o.os, o.tape, o.output, o.size, fun b hb => absurd hb (by omega)⟩, hup, fun _ q => q, fun _ _ q => .inl q, fun b q => Nat.lt_of_lt_of_le (hS b q) o.size, fun b q hq => ⟨Nat.lt_of_lt_of_le (hu b q hq).1 o.size, fun _ => (by rw [hq]; simp), (hu b q hq).2⟩, ⟨rfl, rfl⟩, Rep.s rfl, fun j d u q1 q2 => ?_⟩
        cases j with
        | succ j => simp at q1
        | zero =>
          simp at q1 q2
          subst q1 q2
          refine Rep.opt _ k1 o.at_p rfl fun j d hj => ?_
          match j, hj with
          | 0, hj =>
            simp at hj; subst hj
            have f1 := r0.free (fun _ _ _ q => by cases q) (fun _ q => by cases q) none
            exact (Rep.move mv f1 (fun q hq => by cases hq)).free (fun _ _ _ q => by cases q) (fun _ q => by cases q) _
          | 1, hj => simp at hj; subst hj; exact Rep.s rfl
          | 2, hj => simp at hj; subst hj; exact Rep.s rfl
      have hr := r0
      generalize hrows : zs.map u8E = rows at hr
      cases hr with
      | sl0 hc =>
        have hz : zs = [] := by simpa using hrows
        subst hz
        refine (l01Byte_none w ty p 0 _ k _ h k2 (Nat.zero_le _) (Nat.zero_le _)).mono ?_
        rintro e w' ⟨rfl, o⟩
        exact fin _ _ _ w' o
      | @sl _ _ _ b off c us c1 c2 c3 c4 c5 =>
        subst hrows
        have hl : (zs.map u8E).length = zs.length := by simp
        by_cases hk : k < zs.length
        · have hg : (zs.map u8E)[k]? = some (u8E zs[k]) := by rw [List.getElem?_map, List.getElem?_eq_getElem hk]; rfl
          obtain ⟨s1, s2⟩ := c4 k 0 _ _ hg rfl
          have s3 := Rep.s_inv (c5 k 0 _ _ hg rfl)
          rw [s3, show off + k * 1 + 0 = off + k by omega] at s2
          have hzb := UInt8.toNat_lt zs[k]
          have e1 : bytM zs k h = curY (curH h) (zs[k].toNat : Int) := by unfold bytM; rw [List.getElem?_eq_getElem hk]
          have e2 : stepK zs k = k + 1 := if_pos hk
          rw [e1, e2]
          refine (l01Byte_some w ty p b off _ c k h _ k2 (by omega) (by omega) s2 (fun q => hnS (q ▸ s1)) (by omega) (by omega)).mono ?_
          rintro e w' ⟨rfl, o⟩
          exact fin _ (k + 1) _ w' (by simpa using o)
        · have e1 : bytM zs k h = curX (curH h) := by unfold bytM; rw [List.getElem?_eq_none (by omega)]
          have e2 : stepK zs k = k := if_neg hk
          rw [e1, e2]
          refine (l01Byte_none w ty p _ c k _ h k2 (by omega) (by omega)).mono ?_
          rintro e w' ⟨rfl, o⟩
          exact fin _ _ _ w' o
/-- the cursor goes on. -/
structure Cur where
  zs : List UInt8
  k : Nat
  h : Int
abbrev Cur.d (c : Cur) : D := curD c.zs c.k c.h
def Cur.nx (c : Cur) : Cur := ⟨c.zs, stepK c.zs c.k, curH c.h⟩
def Cur.b (c : Cur) : Int := bytM c.zs c.k c.h
theorem Cur.b_bd (c : Cur) : 0 ≤ c.b ∧ c.b ≤ 255 := bytM_bd _ _ _
theorem c_byte (c : Cur) : FCon Try.prog 104 [c.d] (fun r o => r = .s (.int .i64 c.b) ∧ o = [c.nx.d]) := c_l01Byte _ _ _
/-- a number below n, and the cursor behind it. -/
def Cur.below (c : Cur) (n : Int) : Int × Cur := if n ≤ 0 then (0, c) else if n ≤ 256 then (c.b.tmod n, c.nx) else ((c.b * 16777216 + c.nx.b * 65536 + c.nx.nx.b * 256 + c.nx.nx.nx.b).tmod n, c.nx.nx.nx.nx)
theorem Cur.below_bd (c : Cur) {n : Int} (h : 0 < n) : 0 ≤ (c.below n).1 ∧ (c.below n).1 < n := by
  have a1 := c.b_bd; have a2 := c.nx.b_bd; have a3 := c.nx.nx.b_bd; have a4 := c.nx.nx.nx.b_bd
  unfold Cur.below
  rw [if_neg (by omega)]
  split
  · exact ⟨Int.tmod_nonneg _ a1.1, Int.tmod_lt_of_pos _ h⟩
  · exact ⟨Int.tmod_nonneg _ (by omega), Int.tmod_lt_of_pos _ h⟩
theorem c_below (c : Cur) (n : Int) (hn : n ≤ 4294967296) : FCon Try.prog 51 [c.d, .s (.int .i64 n)] (fun r o => r = .s (.int .i64 (c.below n).1) ∧ o = [(c.below n).2.d, .un]) := by
  by_cases h0 : n ≤ 0
  · have e : c.below n = (0, c) := by unfold Cur.below; rw [if_pos h0]
    rw [e]
    refine FCon.intro PM _ Try.func51 (by kernel_rfl) rfl _ Try.ntmps51 rfl [] (by decide +kernel) (by simp) (by simp) rfl (by first | rfl | simp only [go_sem]) ?_
    (have hWf := f0; repeat' (first | refine zS ?_ | exact zE | with_reducible apply And.intro | ((with_reducible intro hb0); revert hb0; with_reducible first | exact zB0 | refine zB fun hb => ?_ | fail) | ((with_reducible apply q_Meet); exact zM) | exact zC | refine zT ?_ | fail))
  · by_cases h1 : n ≤ 256
    · have e : c.below n = (c.b.tmod n, c.nx) := by unfold Cur.below; rw [if_neg h0, if_pos h1]
      rw [e]
      refine FCon.intro PM _ Try.func51 (by kernel_rfl) rfl _ Try.ntmps51 rfl [] (by decide +kernel) (by simp) (by simp) rfl (by first | rfl | simp only [go_sem]) ?_
      (have hWf := f0; repeat' (first | refine zS ?_ | exact zE | with_reducible apply And.intro | ((with_reducible apply q_CallG); refine CallG_mk (c_byte c) ?_; rintro _ _ ⟨rfl, rfl⟩) | ((with_reducible apply q_CallQ); refine CallQ_mk (c_byte c) ?_) | ((with_reducible intro hb0); revert hb0; with_reducible first | exact zB0 | refine zB fun hb => ?_ | fail) | ((with_reducible apply q_Meet); exact zM) | exact zC | refine zT ?_ | fail))
      trace_state
    · have e : c.below n = ((c.b * 16777216 + c.nx.b * 65536 + c.nx.nx.b * 256 + c.nx.nx.nx.b).tmod n, c.nx.nx.nx.nx) := by unfold Cur.below; rw [if_neg h0, if_neg h1]
      have a1 := c.b_bd; have a2 := c.nx.b_bd; have a3 := c.nx.nx.b_bd; have a4 := c.nx.nx.nx.b_bd
      rw [e]
      refine FCon.intro PM _ Try.func51 (by kernel_rfl) rfl _ Try.ntmps51 rfl [] (by decide +kernel) (by simp) (by simp) rfl (by first | rfl | simp only [go_sem]) ?_
      (have hWf := f0; repeat' (first | refine zS ?_ | exact zE | with_reducible apply And.intro | ((with_reducible apply q_CallG); refine CallG_mk (c_byte c) ?_; rintro _ _ ⟨rfl, rfl⟩) | ((with_reducible apply q_CallQ); refine CallQ_mk (c_byte c) ?_) | ((with_reducible apply q_CallG); refine CallG_mk (c_byte c.nx) ?_; rintro _ _ ⟨rfl, rfl⟩) | ((with_reducible apply q_CallQ); refine CallQ_mk (c_byte c.nx) ?_) | ((with_reducible apply q_CallG); refine CallG_mk (c_byte c.nx.nx) ?_; rintro _ _ ⟨rfl, rfl⟩) | ((with_reducible apply q_CallQ); refine CallQ_mk (c_byte c.nx.nx) ?_) | ((with_reducible apply q_CallG); refine CallG_mk (c_byte c.nx.nx.nx) ?_; rintro _ _ ⟨rfl, rfl⟩) | ((with_reducible apply q_CallQ); refine CallQ_mk (c_byte c.nx.nx.nx) ?_) | ((with_reducible intro hb0); revert hb0; with_reducible first | exact zB0 | refine zB fun hb => ?_ | fail) | ((with_reducible apply q_Meet); exact zM) | exact zC | refine zT ?_ | fail))
      trace_state
end Go.Proofs.Ytngobmjdbjlkcaa

/- A new cursor, over the second engine. -/
namespace Go.Proofs.Ytngobmjdbjlkcaa
set_option linter.unusedVariables false
set_option linter.unusedSimpArgs false
open Go.RowKit Go.ChangeShapes Go.WideShapes
/-- one byte. -/
def bytR (_ : Hp) (r : List Value) (z : UInt8) : Prop := r = [.int .u8 z.toNat]
abbrev BytS (h : Hp) (v : Value) (zs : List UInt8) : Prop := SlOf 1 bytR h v zs
theorem BytS.cell {h : Hp} {a : Option Addr} {n c : Nat} {zs : List UInt8} (x : BytS h (.slice a n c) zs) {i : Nat} (hi : i < zs.length) :
    ∃ b off, a = some ⟨b, off, none⟩ ∧ ∀ j (hj : j < zs.length) (w : World), Sub h w → w.cell? ⟨b, off + j, none⟩ = some (.int .u8 zs[j].toNat) := by
  obtain ⟨a', c', e, _, _, r⟩ := x
  injection e with e1 e2 e3
  subst e1
  rcases r with rfl | ⟨b, off, ea, hc⟩
  · simp at hi
  · refine ⟨b, off, ea, fun j hj w hw => ?_⟩
    obtain ⟨r, hr1, hr2, hr3⟩ := hc j hj
    rw [hr3] at hr2
    have := hr2.cell hw (i := 0) (by simp)
    rw [Nat.mul_one] at this
    simpa using this
set_option maxRecDepth 100000 in
theorem spec_l01New (w : World) (sl : Value) (zs : List UInt8) (hb : BytS (hp w) sl zs) :
    Calls Try.prog 49 #[sl] w fun e w' => ∃ hh : Int, e = .returned (.pointer (some ⟨w.heap.size, 0, none⟩)) ∧ w' = w.alloc (.cells #[sl, .int .i64 0, .int .i64 hh] 132) := by
  have HB := Lib.hid hb
  obtain ⟨a, c, rfl, hc1, hc2, -⟩ := hb
  unfold maxLen at hc2
  go_enter Try.func49, Try.ntmps49
  go_wp2
  go_loop [3, 4] (fun hv i => ∃ (k : Nat) (hh : Int), k ≤ zs.length ∧ i = .int .i64 k ∧ hv = .int .i64 hh) (fun _ i => zs.length - (intOf i).toNat)
  case atStart => exact ⟨0, _, by omega, rfl, rfl⟩
  case round =>
    obtain ⟨k, hh, hk, rfl, rfl⟩ := hrel
    by_cases hlt : k < zs.length ∧ k < 4000
    · obtain ⟨hlt, h4⟩ := hlt
      obtain ⟨b, off, rfl, hcell⟩ := HB.out.cell hlt
      have cb := hcell k hlt w (Sub.self w)
      clear hcell
      go_wp2
      go_round
      case rel => exact ⟨k + 1, _, by omega, by go_num, rfl⟩
      case measure => simp [intOf]; omega
    · by_cases h4 : k < zs.length
      · have h5 : ¬ (k : Int) < 4000 := by omega
        have h6 : (k : Int) < zs.length := by omega
        clear hlt
        go_wp2
        go_ret
        first | exact ⟨rfl, hh, rfl⟩ | exact ⟨hh, rfl, rfl⟩
      · have h6 : ¬ (k : Int) < zs.length := by omega
        clear hlt
        go_wp2
        go_ret
        first | exact ⟨rfl, hh, rfl⟩ | exact ⟨hh, rfl, rfl⟩
theorem c_l01New (zs : List UInt8) : FCon Try.prog 49 [.sl 1 (zs.map u8E)] (fun r _ => ∃ h : Int, r = (⟨zs, 0, h⟩ : Cur).d) := by
  refine ⟨fun vs w => ?_, fun w g vs hS hu hlen hv => ?_⟩
  · have h1 := Try.func49
    have hname' : ¬ Try.f49.name = "runtime.NumGoroutine" := by decide
    have hbn : ¬ Try.f49.body = none := by decide
    simp [callFunc, h1, hname', hbn]
  · obtain ⟨v, rfl, h0⟩ := one_arg (P := fun j d u => RA g w j d u) hlen hv
    have h0 : Rep g.S g.up w (some (.par 0 0)) (.sl 1 (zs.map u8E)) v := h0
    have f1 := h0.free (fun _ _ _ q => by cases q) (fun _ q => by cases q) none
    have hb : BytS (hp w) v zs := Rep.slOf (enc := u8E) (k := 1) (R := bytR) (fun _ _ => rfl) (by decide) (fun r x _ hr => by
      obtain ⟨h1, h2⟩ := hr
      match r, h1 with
      | [u], _ => exact congrArg (fun z => [z]) (Rep.s_inv (h2 0 _ u rfl rfl))) f1
    refine (spec_l01New w v zs hb).mono ?_
    rintro e w' ⟨hh, rfl, rfl⟩
    have hold : ∀ b, b < w.heap.size → (w.alloc (.cells #[v, .int .i64 0, .int .i64 hh] 132)).heap[b]? = w.heap[b]? := fun b hb => Below.heap_alloc _ _ _ hb
    have hnew : (w.alloc (.cells #[v, .int .i64 0, .int .i64 hh] 132)).heap[w.heap.size]? = some (.cells #[v, .int .i64 0, .int .i64 hh] 132 (0, 0)) := by
      show (w.heap.push _)[w.heap.size]? = _
      simp
    let up' : Nat → Option Pos := fun b => if b = w.heap.size then some (.ans 0 0) else none
    have hsz : (w.alloc (.cells #[v, .int .i64 0, .int .i64 hh] 132)).heap.size = w.heap.size + 1 := by simp
    have mv : Mv (fun _ => False) (fun q => q) g ⟨g.β, g.κ, up', g.S⟩ w (w.alloc (.cells #[v, .int .i64 0, .int .i64 hh] 132)) := ⟨fun b hb => ⟨hb, hold b (hS b hb)⟩, fun b q _ f => f.elim, fun b q o' _ f => f.elim⟩
    refine ⟨_, ⟨g.β, g.κ, up', g.S⟩, (⟨zs, 0, hh⟩ : Cur).d, [], rfl, (Below.refl _ _).alloc (Nat.zero_le _) _, fun b q _ => hold b q, fun _ q => q, fun _ _ q => .inl q, fun b q => by rw [hsz]; have := hS b q; omega, fun b q hq => ?_, ⟨hh, rfl⟩, ?_, fun j d u q => by simp at q⟩
    · have hb' : b = w.heap.size := by
        by_cases e : b = w.heap.size
        · exact e
        · have : up' b = none := if_neg e
          exact absurd (hq.symm.trans this) (by simp)
      subst hb'
      exact ⟨by rw [hsz]; omega, fun q => absurd q (by omega), fun q => by have := hS _ q; omega⟩
    · refine Rep.opt (p := .ans 0 0) _ (if_pos rfl) hnew rfl fun j d hj => ?_
      match j, hj with
      | 0, hj =>
        simp at hj; subst hj
        exact (Rep.move mv f1 (fun q hq => by cases hq)).free (fun _ _ _ q => by cases q) (fun _ q => by cases q) _
      | 1, hj => simp at hj; subst hj; exact Rep.s rfl
      | 2, hj => simp at hj; subst hj; exact Rep.s rfl
end Go.Proofs.Ytngobmjdbjlkcaa

/- Reading of bytes, for the laws of draws over the second engine. -/
namespace Go.Proofs.Ytngobmjdbjlkcaa
set_option linter.unusedVariables false
set_option linter.unusedSimpArgs false
open Go.RowKit Go.ChangeShapes Go.WideShapes
theorem rdE_u8 : RdE 5 1 u8E (fun _ => True) := by
  refine ⟨by kernel_rfl, fun H en W n cs x h => ?_⟩
  obtain ⟨z, rfl, -, hz⟩ := DataW.trod_int Try.underlying5 h
  simp only [Lit.wf, IntKind.min, IntKind.max, IntKind.signed, IntKind.bits, Bool.and_eq_true] at hz
  simp at hz
  refine ⟨UInt8.ofNat z.toNat, ?_, trivial⟩
  have e : ((UInt8.ofNat z.toNat).toNat : Int) = z := by rw [UInt8.toNat_ofNat']; omega
  rw [u8E_eq, e]
  exact repL_one (.s rfl)
theorem rdE_bytes : RdE 22 1 (fun zs : List UInt8 => [.sl 1 (zs.map u8E)]) (fun zs => ∀ z ∈ zs, True) := RdE.slice Try.underlying22 (by kernel_rfl) (by decide) rdE_u8
end Go.Proofs.Ytngobmjdbjlkcaa
