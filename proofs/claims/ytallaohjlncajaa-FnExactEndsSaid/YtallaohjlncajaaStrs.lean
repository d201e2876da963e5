/- Slices of strings: szStringS, toStringS, eqStringS. -/
import Derived.Test.YtallaohjlncajaaOwn
import Derived.Test.YtallaohjlncajaaStrWalks
import Derived.Deep.QuietTactic
import Derived.BigQuiet
namespace Go.Proofs.Ytallaohjlncajaa
set_option linter.unusedVariables false
open Go.RowKit

theorem info_string : (Try.prog.info? 9).map (fun i => (i.zero, i.size, i.bytes)) = some (some (.string ByteArray.empty), 1, 16) := by kernel_rfl
/-- one string. -/
def strR (_ : Hp) (r : List Value) (x : ByteArray) : Prop := r = [.string x] ∧ x.size ≤ maxLen
abbrev StrS (h : Hp) (v : Value) (ss : List ByteArray) : Prop := SlOf 1 strR h v ss
theorem StrS.le' {h h' : Hp} {v : Value} {ss : List ByteArray} (x : StrS h v ss) (l : HLe h h') : StrS h' v ss := SlOf.le x l fun _ _ _ r => r
theorem StrS.mem {h : Hp} {v : Value} {ss : List ByteArray} (x : StrS h v ss) : ∀ s ∈ ss, s.size ≤ maxLen := by
  obtain ⟨a, c, _, _, _, r⟩ := x
  intro s hs
  rcases r with rfl | ⟨b, off, _, hc⟩
  · cases hs
  · obtain ⟨i, hi, rfl⟩ := List.getElem_of_mem hs
    obtain ⟨_, _, _, hr⟩ := hc i hi
    exact hr.2
/-- the cell of a string. -/
theorem StrS.cell {h : Hp} {a : Option Addr} {n c : Nat} {ss : List ByteArray} (x : StrS h (.slice a n c) ss) {i : Nat} (hi : i < ss.length) :
    n = ss.length ∧ ∃ b off, a = some ⟨b, off, none⟩ ∧ ∀ j (hj : j < ss.length) (w : World), Sub h w → w.cell? ⟨b, off + j, none⟩ = some (.string ss[j]) := by
  obtain ⟨a', c', e, _, _, r⟩ := x
  injection e with e1 e2 e3
  subst e1
  refine ⟨e2, ?_⟩
  rcases r with rfl | ⟨b, off, ea, hc⟩
  · simp at hi
  · refine ⟨b, off, ea, fun j hj w hw => ?_⟩
    obtain ⟨r, hr1, hr2, hr3⟩ := hc j hj
    rw [hr3.1] at hr2
    have := hr2.cell hw (i := 0) (by simp)
    rw [Nat.mul_one] at this
    simpa using this
/-- how many letters strings have together. -/
def lenS (ss : List ByteArray) : Int := (ss.map fun s => (s.size : Int)).sum
theorem lenS_nil : lenS [] = 0 := rfl
theorem lenS_take_succ (ss : List ByteArray) (k : Nat) (h : k < ss.length) : lenS (ss.take (k + 1)) = lenS (ss.take k) + (ss[k].size : Int) := by
  unfold lenS
  rw [List.take_succ_eq_append_getElem h, List.map_append, List.sum_append]; simp
/-- what the size check of a slice of strings answers, after k strings. -/
def SzPost (left n : Int) (e : Ending) : Prop := ∃ r : Int, e = .returned (.int .i64 r) ∧ -1 ≤ r ∧ r ≤ left ∧ (0 ≤ r → n ≤ left)
theorem laws_szStringS (w : World) (h : Hp) (hs : Sub h w) (v : Value) (ss : List ByteArray) (hv : StrS h v ss) (left : Int) (h0 : 0 ≤ left) (h1 : left ≤ 1048576) :
    Calls Try.prog 72 #[v, .int .i64 left] w fun e w' => SzPost left ss.length e ∧ w = w' := by
  have hm := hv.mem
  have HV := Lib.hid hv
  obtain ⟨a, c, rfl, hc1, hc2, -⟩ := hv
  unfold maxLen at hc2
  by_cases hl : left < ss.length
  · go_enter Try.func72, Try.ntmps72
    go_wp2
    go_ret
    exact ⟨⟨_, rfl, by omega, by omega, by omega⟩, rfl⟩
  · go_enter Try.func72, Try.ntmps72
    go_wp2
    go_loop [1, 5] (fun lv i => ∃ (k : Nat) (r : Int), i = .int .i64 k ∧ lv = .int .i64 r ∧ k ≤ ss.length ∧ 0 ≤ r ∧ r ≤ left) (fun _ i => ss.length - (intOf i).toNat)
    case atStart => exact ⟨0, _, rfl, rfl, by omega, by omega, by omega⟩
    case round =>
      obtain ⟨k, r, rfl, rfl, hk, hr0, hr1⟩ := hrel
      by_cases hlt : k < ss.length
      · obtain ⟨-, b, off, rfl, hcell⟩ := HV.out.cell hlt
        have hc := hcell k hlt w hs
        have hz := hm _ (List.getElem_mem hlt)
        unfold maxLen at hz
        clear hcell
        by_cases hb : r < ss[k].size
        · go_wp2
          go_ret
          exact ⟨⟨_, rfl, by omega, by omega, by omega⟩, rfl⟩
        · go_wp2
          go_round
          case rel => exact ⟨k + 1, r - ss[k].size, by go_num, rfl, by omega, by omega, by omega⟩
          case measure => simp [intOf]; omega
      · go_wp2
        go_ret
        exact ⟨⟨_, rfl, by omega, by omega, by omega⟩, rfl⟩

theorem flatMap_one {α β : Type} (f : α → β) : ∀ l : List α, l.flatMap (fun x => [f x]) = l.map f
  | [] => rfl
  | x :: l => by rw [List.flatMap_cons, flatMap_one f l]; rfl
def strSt (ss : List ByteArray) (k : Nat) : List Value := (ss.take k).map Value.string ++ List.replicate (ss.length - k) (.string ByteArray.empty)
theorem strSt_zero (ss : List ByteArray) : strSt ss 0 = List.replicate ss.length (.string ByteArray.empty) := by simp [strSt]
theorem strSt_end (ss : List ByteArray) : strSt ss ss.length = ss.map Value.string := by simp [strSt]
theorem strSt_succ (ss : List ByteArray) (k : Nat) (h : k < ss.length) : (strSt ss k).set k (.string ss[k]) = strSt ss (k + 1) := by
  unfold strSt
  rw [List.take_succ_eq_append_getElem h, List.map_append, show ss.length - k = (ss.length - (k + 1)) + 1 by omega, List.replicate_succ]
  have hl : ((ss.take k).map Value.string).length = k := by simp; omega
  rw [List.set_append_right _ _ (by omega), hl]
  simp
theorem strSt_length (ss : List ByteArray) (k : Nat) (h : k ≤ ss.length) : (strSt ss k).length = ss.length := by simp [strSt]; omega
theorem read_strs {w : World} {B : Nat} {v : Value} {ss : List ByteArray} (hm : ∀ s ∈ ss, s.size ≤ maxLen) (h : Own w B 9 1 v ss.length (ss.map Value.string)) (h' : Hp) (hh' : ∀ b, B ≤ b → h' b = w.heap[b]?) : StrS h' v ss := by
  refine own_read ss (fun x => [.string x]) (fun _ _ => rfl) strR h' hh' (fun x hx => ⟨rfl, hm x hx⟩) (e := 9) (B := B) ?_
  rw [flatMap_one]; exact h
def StrsPost (h : Hp) (w : World) (ss : List ByteArray) (e : Ending) (w' : World) : Prop := ∃ v', e = .returned v' ∧ StrS (ext h w.heap.size w') v' ss ∧ Below w.heap.size w w'
theorem laws_toStringS (w : World) (h : Hp) (hs : Sub h w) (v : Value) (ss : List ByteArray) (hv : StrS h v ss) (hl : ss.length ≤ 1048576) :
    Calls Try.prog 73 #[v] w fun e w' => StrsPost h w ss e w' := by
  have hm := Lib.hid hv.mem
  have HV := Lib.hid hv
  obtain ⟨a, c, rfl, hc1, hc2, -⟩ := hv
  unfold maxLen at hc2
  have hlm : ss.length ≤ maxLen := by unfold maxLen; omega
  go_enter Try.func73, Try.ntmps73
  go_wp2_with (first | (at_make; refine make_n Try.underlying39 info_string w rfl _ _ rfl w.heap.size _ _ ss.length rfl rfl rfl rfl (by omega) hlm (Nat.le_refl _) ?_))
  intro w1 hown hb1
  have hz1 := hb1.size
  rw [toList_madeCells_one, ← strSt_zero] at hown
  have hg : w.heap.size < w1.heap.size := (own_parts hown).2.2.2.2.2
  have hsub1 := hs.below hb1
  have HO1 := Lib.hid hown
  clear hown
  go_wp2
  go_loopw [4] (fun i wr => ∃ k : Nat, k ≤ ss.length ∧ i = .int .i64 k ∧ Own wr w.heap.size 9 1 (.slice (some ⟨w.heap.size, 0, none⟩) ss.length ss.length) ss.length (strSt ss k) ∧ Sub h wr ∧ Below w.heap.size w wr) (fun i _ => ss.length - (intOf i).toNat)
  case atStart => exact ⟨0, by omega, rfl, HO1.out, hsub1, hb1⟩
  case round =>
    obtain ⟨k, hk, rfl, hown, hsub, hbel⟩ := hrel
    by_cases hlt : k < ss.length
    · obtain ⟨-, b, off, rfl, hcell⟩ := HV.out.cell hlt
      have hc := hcell k hlt wr hsub
      obtain ⟨-, -, hxl, hcs, hfr, hgl⟩ := own_parts hown
      have hc2 := hcs k (by rw [hxl]; omega)
      rw [List.getElem?_eq_getElem (by rw [hxl]; omega)] at hc2
      generalize (strSt ss k)[k]'(by rw [hxl]; omega) = old at hc2
      have hf := hfr k
      have HS := Lib.hid (own_set hown k (.string ss[k]))
      have hnone : h w.heap.size = none := hs.none (Nat.le_refl _)
      have HN := Lib.hid hnone
      clear hcell hcs hfr hown hxl hnone
      go_wp2
      go_roundw
      case rel => exact ⟨k + 1, by omega, by go_num, by rw [← strSt_succ ss k hlt]; exact HS.out, hsub.setCell HN.out _, hbel.setCell (Nat.le_refl _) _⟩
      case measure => simp [intOf]; omega
    · obtain rfl : k = ss.length := by omega
      have HO := Lib.hid (read_strs hm.out (by rw [← strSt_end]; exact hown) (ext h w.heap.size wr) (fun b hb => ext_new hb))
      clear hown
      go_wp2
      go_ret
      exact ⟨_, rfl, HO.out, hbel⟩
theorem below_drewN {B : Nat} {a w : World} (h : Below B a w) (n : Nat) : Below B a (w.drewN n) := ⟨h.os, h.tape, h.output, h.size, h.block⟩
theorem laws_eqStringS (w : World) (h : Hp) (hs : Sub h w) (u v : Value) (ss : List ByteArray) (hu : StrS h u ss) (hv : StrS h v ss) :
    Calls Try.prog 74 #[u, v] w fun e w' => e = .returned (.bool true) ∧ Below w.heap.size w w' := by
  have HU := Lib.hid hu
  have HV := Lib.hid hv
  obtain ⟨a, c, rfl, hc1, hc2, -⟩ := hu
  obtain ⟨a', c', rfl, hc1', hc2', -⟩ := hv
  unfold maxLen at hc2 hc2'
  go_enter Try.func74, Try.ntmps74
  go_wp2
  go_loopw [5] (fun i wr => ∃ k : Nat, k ≤ ss.length ∧ i = .int .i64 k ∧ Below w.heap.size w wr) (fun i _ => ss.length - (intOf i).toNat)
  case atStart => exact ⟨0, by omega, rfl, Below.refl _ _⟩
  case round =>
    obtain ⟨k, hk, rfl, hbel⟩ := hrel
    by_cases hlt : k < ss.length
    · obtain ⟨-, b, off, rfl, hcell⟩ := HU.out.cell hlt
      obtain ⟨-, b', off', rfl, hcell'⟩ := HV.out.cell hlt
      have hc := hcell k hlt wr (hs.below hbel)
      have hc' := hcell' k hlt wr (hs.below hbel)
      clear hcell hcell'
      go_wp2
      go_quiet (fail)
      go_wp2
      go_roundw
      case rel => exact ⟨k + 1, by omega, by go_num, below_drewN hbel _⟩
      case measure => simp [intOf]; omega
    · go_wp2
      go_ret
      exact ⟨rfl, hbel⟩
end Go.Proofs.Ytallaohjlncajaa
