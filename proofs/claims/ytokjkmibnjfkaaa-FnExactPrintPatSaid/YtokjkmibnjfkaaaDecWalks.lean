/- digits, NumText of both texts. -/
import Derived.Test.YtokjkmibnjfkaaaBytes
import Derived.Test.YtokjkmibnjfkaaaDec
import Derived.Test.YtokjkmibnjfkaaaWrapWalks
import Derived.Test.YtokjkmibnjfkaaaStrWalks
import Derived.Deep.RegionWith
namespace Go.Proofs.Ytokjkmibnjfkaaa
open Go.RowKit

theorem OwnB.parts {w : World} {B g n c : Nat} {out : List UInt8} (h : OwnB w B (.slice (some ⟨g, 0, none⟩) n c) out) :
    n = out.length ∧ B ≤ g ∧ (∀ j, j < out.length → w.cell? ⟨g, j, none⟩ = some (byteV (out.getD j 0))) ∧ (∀ j, w.frozen? ⟨g, j, none⟩ = false) ∧ g < w.heap.size := by
  obtain ⟨h1, ⟨e, h2⟩ | ⟨g', cap, cur, e, hg, hh, hc, hm, hs, ht⟩⟩ := h
  · cases e
  · injection e with e e2 e3
    injection e with e
    injection e with e
    subst e
    refine ⟨e2, hg, fun j hj => ?_, fun j => ?_, ?_⟩
    · simp only [World.cell?, hh]
      rw [if_neg (by simp)]
      have e : cur.toList[j]? = (out.map byteV)[j]? := by rw [← ht, List.getElem?_take_of_lt (by omega)]
      rw [← Array.getElem?_toList, e, List.getElem?_map, List.getElem?_eq_getElem hj]
      simp [List.getD_eq_getElem?_getD, List.getElem?_eq_getElem hj]
    · simp [World.frozen?, hh]
    · rcases Nat.lt_or_ge g w.heap.size with hl | hl
      · exact hl
      · rw [Array.getElem?_eq_none hl] at hh; cases hh
theorem OwnB.set {w : World} {B g n c : Nat} {out : List UInt8} (h : OwnB w B (.slice (some ⟨g, 0, none⟩) n c) out) (j : Nat) (b : UInt8) (_hj : j < out.length) :
    OwnB (w.setCell ⟨g, j, none⟩ (byteV b)) B (.slice (some ⟨g, 0, none⟩) n c) (out.set j b) := by
  obtain ⟨h1, ⟨e, h2⟩ | ⟨g', cap, cur, e, hg, hh, hc, hm, hs, ht⟩⟩ := h
  · cases e
  · injection e with e e2 e3
    injection e with e
    injection e with e
    subst e
    refine ⟨by simp, .inr ⟨g, cap, cur.setIfInBounds j (byteV b), by rw [e3, e2]; simp, hg, ?_, by simpa using hc, hm, by simpa using hs, ?_⟩⟩
    · simp only [World.setCell, Array.getElem?_modify, if_true, hh, Option.map_some]
      rw [if_neg (by simp)]
    · rw [Array.toList_setIfInBounds, List.length_set, List.map_set, ← ht, List.take_set]
theorem OwnB.ne_nil {w : World} {B : Nat} {v : Value} {out : List UInt8} (h : OwnB w B v out) (hne : 0 < out.length) : ∃ g c, v = .slice (some ⟨g, 0, none⟩) out.length c := by
  obtain ⟨h1, ⟨rfl, h2⟩ | ⟨g', cap, cur, e, _⟩⟩ := h
  · omega
  · exact ⟨_, _, e⟩
def RevPost (w : World) (B : Nat) (v : Value) (l : List UInt8) (w' : World) : Prop := OwnB w' B v l.reverse ∧ Below B w w'
theorem slices_Reverse (w : World) (B : Nat) (v : Value) (l : List UInt8) (hv : OwnB w B v l) (hl : l.length ≤ 1000000) : Calls Try.prog 84 #[v] w fun e w' => e = .returned (.tuple #[]) ∧ RevPost w B v l w' := by
  have HO := Lib.hid hv
  obtain ⟨a, c, rfl⟩ := hv.len
  clear hv
  go_enter Try.func84, Try.ntmps84
  go_wp2
  go_loopw [2, 3] (fun i j wr => ∃ k : Nat, k ≤ l.length ∧ i = .int .i64 k ∧ j = .int .i64 ((l.length : Int) - 1 - k) ∧ OwnB wr B (.slice a l.length c) (revTo l k) ∧ Below B w wr) (fun i _ _ => l.length - (intOf i).toNat)
  case atStart => exact ⟨0, Nat.zero_le _, rfl, by simp, by rw [revTo_zero]; exact HO.out, Below.refl _ _⟩
  case round =>
    obtain ⟨k, hk, rfl, rfl, hown, hbel⟩ := hrel
    by_cases hlt : k < l.length - 1 - k
    · have hlt' : (k : Int) < (l.length : Int) - 1 - k := by omega
      obtain ⟨g, c', e⟩ := hown.ne_nil (by rw [revTo_length]; omega)
      injection e with e1 e2 e3
      subst e1; subst e3
      obtain ⟨-, hB, hcell, hfr, hg⟩ := hown.parts
      have c1 := hcell k (by rw [revTo_length]; omega)
      have c2 := hcell (l.length - 1 - k) (by rw [revTo_length]; omega)
      have f1 := hfr k
      have f2 := hfr (l.length - 1 - k)
      have HO2 := Lib.hid hown
      have HS := Lib.hid (revTo_succ l k hlt)
      obtain ⟨x1, hx1⟩ : ∃ x : UInt8, (revTo l k).getD k 0 = x := ⟨_, rfl⟩
      obtain ⟨x2, hx2⟩ : ∃ x : UInt8, (revTo l k).getD (l.length - 1 - k) 0 = x := ⟨_, rfl⟩
      rw [hx1] at c1
      rw [hx2] at c2
      unfold byteV at c1 c2
      have HX := Lib.hid (And.intro hx1 hx2)
      clear hcell hfr hown e2 hx1 hx2
      have b1 : (k : Int) ≤ (l.length : Int) - 1 := by omega
      have b2 : (l.length : Int) - 1 - k < l.length := by omega
      have b3 : 0 ≤ (l.length : Int) - 1 - k := by omega
      have b4 : (k : Int) < l.length := by omega
      go_wp2
      go_region
      go_wp2
      go_roundw
      case rel =>
        refine ⟨k + 1, by omega, by go_num, by rw [show ((l.length : Int) - 1 - k - 1) = (l.length : Int) - 1 - ((k + 1 : Nat) : Int) from by omega], ?_, ?_⟩
        · have h1 := (HO2.out.set k x2 (by rw [revTo_length]; omega)).set (l.length - 1 - k) x1 (by simp [revTo_length]; omega)
          have e : ((revTo l k).set k x2).set (l.length - 1 - k) x1 = revTo l (k + 1) := by
            rw [← HS.out, swp, HX.out.1, HX.out.2]
          rw [e] at h1
          exact h1.drew
        · exact ((hbel.setCell hB _).setCell hB _).drew
      case measure => simp [intOf]; omega
    · have hlt' : (l.length : Int) - 1 - k ≤ (k : Int) := by omega
      have HS := Lib.hid (revTo_end l k hlt)
      have HO2 := Lib.hid hown
      clear hown
      go_wp2
      go_end0
      exact ⟨rfl, HS.out ▸ HO2.out, hbel⟩

theorem ret_s {a b : List UInt8} (h : a = b) : Ending.returned (.string (bs a)) = .returned (.string (bs b)) := by rw [h]
theorem slice_len {w : World} {B : Nat} {v : Value} {out : List UInt8} (h : OwnB w B v out) : ∃ a c, v = .slice a out.length c := h.len

theorem dgtV {d : Nat} (h : d < 10) : Value.int .u8 (48 + (d : Int)) = byteV (dgt d) := by
  unfold byteV; rw [dgt_nat h]; simp
def len0 (v : Value) : Nat := match v with | .slice _ 0 _ => 1 | _ => 0
theorem len0_pos {a : Option Addr} {n c : Nat} (h : 0 < n) : len0 (.slice a n c) = 0 := by
  cases n with
  | zero => omega
  | succ n => rfl
theorem len0_own {w : World} {B : Nat} {v : Value} {out : List UInt8} {b : UInt8} (h : OwnB w B v (out ++ [b])) : len0 v = 0 := by
  obtain ⟨a, c, rfl⟩ := h.len
  exact len0_pos (by simp)
theorem DecInv.len {N n : Nat} {out : List UInt8} (h : DecInv N n out) (hc : 0 < n ∨ out = []) (hN : N < 10 ^ 19) : out.length ≤ 19 := by
  have e := congrArg List.length (h.1 hc)
  have := decL_len 18 N hN
  rw [List.length_append, List.length_reverse] at e
  omega
set_option maxRecDepth 100000 in
theorem impl_digits (w : World) (n : Int) (h0 : 0 ≤ n) (h1 : n ≤ 9223372036854775807) : Calls Try.prog 41 #[.int .i64 n] w fun e w' => e = .returned (.string (bs (decL n.toNat))) ∧ Below w.heap.size w w' := by
  obtain ⟨N, rfl⟩ := Int.eq_ofNat_of_zero_le h0
  rw [Int.toNat_natCast]
  have hb0 : Below w.heap.size w w := Below.refl _ _
  go_enter Try.func41, Try.ntmps41
  go_wp2
  go_loopw [0, 3] (fun i v wr => ∃ (n : Nat) (out : List UInt8), n ≤ N ∧ i = .int .i64 n ∧ OwnB wr w.heap.size v out ∧ DecInv N n out ∧ Below w.heap.size w wr) (fun i v _ => (intOf i).toNat + len0 v)
  case atStart => exact ⟨N, [], Nat.le_refl _, rfl, OwnB.made w _ (Nat.le_refl _) [] (by decide), DecInv.start N, hb0.alloc (Nat.le_refl _) _⟩
  case round =>
    obtain ⟨n, out, hn, rfl, hown, hinv, hbel⟩ := hrel
    obtain ⟨a, c, rfl⟩ := hown.len
    have HO := Lib.hid hown
    have HI := Lib.hid hinv
    clear hown hinv
    by_cases hc : 0 < n ∨ out = []
    · have hl := HI.out.len hc (by omega)
      have HS := Lib.hid (HI.out.step hc)
      have HV := Lib.hid (dgtV (d := n % 10) (by omega))
      by_cases hn0 : 0 < n
      · clear hc
        go_wp2_with (first | (at_builtin; refine app_u8_lit wr rfl _ _ rfl w.heap.size (.slice a out.length c) out rfl HO.out _ rfl [dgt (n % 10)] ?_ ?_ ?_ ?_))
        · exact congrArg (fun x => [x]) HV.out
        · simp; omega
        · exact hbel.size
        · intro v' w' hown' hb'
          go_wp2
          go_roundw
          case rel => exact ⟨n / 10, out ++ [dgt (n % 10)], by omega, by go_num, hown', HS.out, hbel.trans hb'⟩
          case measure =>
            rw [len0_own hown']
            simp [intOf]; omega
      · obtain rfl : n = 0 := by omega
        obtain rfl : out = [] := by rcases hc with hc | hc; omega; exact hc
        clear hc
        go_wp2_with (first | (at_builtin; refine app_u8_lit wr rfl _ _ rfl w.heap.size (.slice a 0 c) [] rfl HO.out _ rfl [dgt 0] ?_ ?_ ?_ ?_))
        · exact congrArg (fun x => [x]) HV.out
        · simp
        · exact hbel.size
        · intro v' w' hown' hb'
          go_wp2
          go_roundw
          case rel => exact ⟨0, [dgt 0], by omega, by go_num, hown', HS.out, hbel.trans hb'⟩
          case measure =>
            rw [len0_own (out := []) hown']
            simp [intOf, len0]
    · have HD := Lib.hid (HI.out.done hc)
      have HL := Lib.hid (show out.length ≤ 19 by
        have e := congrArg List.length (HI.out.done hc)
        have := decL_len 18 N (by omega)
        rw [List.length_reverse] at e
        omega)
      obtain ⟨z1, z2⟩ : n = 0 ∧ out ≠ [] := by constructor; omega; exact fun e => hc (.inr e)
      subst z1
      have z3 : ((out.length : Int) == 0) = false := by simpa using z2
      clear hc z2
      go_wp2_with (first | (go_at_call 84; refine (slices_Reverse _ w.heap.size _ out HO.out (by have := HL.out; omega)).mono ?_; rintro e w1 ⟨rfl, hr1, hr2⟩))
      have hcv := run_bytes_str hr1
      go_wp2
      simp only [hcv]
      go_wp2
      go_ret
      exact ⟨ret_s HD.out.symm, hbel.trans hr2⟩

theorem str_app (l m : List UInt8) : (bs l ++ bs m) = bs (l ++ m) := by
  apply bytes_ext
  show ((bs l).append (bs m)).data.toList = _
  simp [bs, ByteArray.append]

theorem impl_NumText (w : World) (n : Int) (hlo : -9223372036854775808 ≤ n) (hhi : n ≤ 9223372036854775807) : Calls Try.prog 45 #[.int .i64 n] w fun e w' => e = .returned (.string (bs (numT n))) ∧ Below w.heap.size w w' := by
  by_cases hin : -4611686018427387904 ≤ n ∧ n ≤ 4611686018427387903
  · have ht : (decide (-4611686018427387904 ≤ n) && decide (n ≤ 4611686018427387903)) = true := by simp [hin]
    have HT := Lib.hid ht
    obtain ⟨h1, h2⟩ := hin
    clear ht
    by_cases hn : n < 0
    · have HN := Lib.hid (numT_neg h1 hn)
      have hsz : (bs (decL (-n).toNat)).size ≤ 19 := by rw [bs_size]; exact decL_len 18 _ (by omega)
      go_enter Try.func45, Try.ntmps45
      go_wp2_with (first | (go_at_call 68; refine (impl_within _ _ _ _).mono ?_; rintro e w' ⟨rfl, rfl⟩) | (go_at_call 41; refine (impl_digits _ _ (by omega) (by omega)).mono ?_; rintro e w1 ⟨rfl, hb1⟩))
      go_ret
      exact ⟨congrArg (fun s => Ending.returned (.string s)) ((str_app [45] _).trans (congrArg bs HN.out.symm)), hb1⟩
    · have HN := Lib.hid (numT_pos h2 hn)
      go_enter Try.func45, Try.ntmps45
      go_wp2_with (first | (go_at_call 68; refine (impl_within _ _ _ _).mono ?_; rintro e w' ⟨rfl, rfl⟩) | (go_at_call 41; refine (impl_digits _ _ (by omega) (by omega)).mono ?_; rintro e w1 ⟨rfl, hb1⟩))
      go_ret
      exact ⟨ret_s HN.out.symm, hb1⟩
  · have ht : (decide (-4611686018427387904 ≤ n) && decide (n ≤ 4611686018427387903)) = false := by grind
    have HN := Lib.hid (numT_out hin)
    go_enter Try.func45, Try.ntmps45
    go_wp2_with (first | (go_at_call 68; refine (impl_within _ _ _ _).mono ?_; rintro e w' ⟨rfl, rfl⟩))
    go_ret
    exact ⟨ret_s HN.out.symm, Below.refl _ _⟩


theorem spec_l01Digits : ∀ (k : Nat) (w : World) (n : Int), n ≤ 0 → -(10 : Int) ^ (k + 1) < n → -9223372036854775808 ≤ n →
    Calls Try.prog 77 #[.int .i64 n] w fun e w' => e = .returned (.string (bs (decL (-n).toNat))) ∧ Below w.heap.size w w' := by
  have small : ∀ (w : World) (n : Int), n ≤ 0 → -10 < n → Calls Try.prog 77 #[.int .i64 n] w fun e w' => e = .returned (.string (bs (decL (-n).toNat))) ∧ Below w.heap.size w w' := by
    intro w n h0 h1
    have hv : Value.int .u8 (48 - n) = byteV (dgt (-n).toNat) := by
      rw [← dgtV (by omega)]; congr 1; omega
    have hcv := run_str_one (48 - n) _ hv
    have HN := Lib.hid (decL_small (n := (-n).toNat) (by omega))
    clear hv
    go_enter Try.func77, Try.ntmps77
    go_wp2
    go_ret
    exact ⟨ret_s HN.out.symm, (Below.refl _ _).alloc (Nat.le_refl _) _⟩
  intro k
  induction k with
  | zero => intro w n h0 h1 _; exact small w n h0 (by simpa using h1)
  | succ k ih =>
    intro w n h0 h1 hlo
    by_cases hs : -10 < n
    · exact small w n h0 hs
    · have hp : (10 : Int) ^ (k + 1 + 1) = 10 ^ (k + 1) * 10 := Int.pow_succ _ _
      have hq : n.tdiv 10 = -((-n) / 10) := by
        rw [show n = -(-n) from by omega, Int.neg_tdiv, Int.tdiv_eq_ediv_of_nonneg (by omega)]; simp
      have hm : n.tmod 10 = -((-n) % 10) := by
        rw [show n = -(-n) from by omega, Int.neg_tmod, Int.tmod_eq_emod_of_nonneg (by omega)]; simp
      have q1 : n.tdiv 10 ≤ 0 := by omega
      have q2 : -(10 : Int) ^ (k + 1) < n.tdiv 10 := by omega
      have q3 : -9223372036854775808 ≤ n.tdiv 10 := by omega
      have r1 : -10 < n.tmod 10 := by omega
      have r2 : n.tmod 10 ≤ 0 := by omega
      have hv : Value.int .u8 (48 - n.tmod 10) = byteV (dgt ((-n).toNat % 10)) := by
        rw [← dgtV (by omega)]; congr 1; omega
      have hcv := run_str_one (48 - n.tmod 10) _ hv
      have HN := Lib.hid (decL_big (n := (-n).toNat) (by omega))
      have HQ := Lib.hid (show (-(n.tdiv 10)).toNat = (-n).toNat / 10 by omega)
      have ih' := Lib.hid ih
      clear hv ih hp hq hm
      have z1 : (bs (decL (-n.tdiv 10).toNat)).size ≤ 19 := by rw [bs_size]; exact decL_len 18 _ (by omega)
      have z2 : (bs [dgt ((-n).toNat % 10)]).size ≤ 1 := by rw [bs_size]; simp
      have z3 : ¬ 9223372036854775807 < (bs (decL (-n.tdiv 10).toNat)).size + (bs [dgt ((-n).toNat % 10)]).size := by omega
      have e1 : IntKind.i64.wrap (n.tdiv 10) = n.tdiv 10 := IntWalk.i64_in _ (by omega)
      have e2 : IntKind.i64.wrap (48 - n.tmod 10) = 48 - n.tmod 10 := IntWalk.i64_in _ (by omega)
      have e3 : IntKind.u8.wrap (48 - n.tmod 10) = 48 - n.tmod 10 := IntWalk.u8_in _ (by omega)
      go_enter Try.func77, Try.ntmps77
      go_wp2_with fail
      go_region_with (go_at_call 77; refine (ih'.out _ _ q1 q2 q3).mono ?_; rintro e w1 ⟨rfl, hb1⟩; first | (have hc1 : w1.cell? ⟨w.heap.size, 0, none⟩ = some (.int .u8 (48 - n.tmod 10)) := cell_kept hb1 (new_cell0 w.drew _ _)) | skip)
      all_goals
        go_wp2
        go_ret
        refine ⟨congrArg (fun s => Ending.returned (.string s)) ((str_app _ _).trans (congrArg bs (by rw [HN.out, HQ.out]))), ?_⟩
      · exact ((Below.refl _ _).drew.trans hb1).alloc hb1.size _
      · exact (((Below.refl _ _).drew.alloc (Nat.le_refl _) _).trans (hb1.mono (by simp)))
      · exact (((Below.refl _ _).drew.alloc (Nat.le_refl _) _).trans (hb1.mono (by simp)))
theorem spec_NumText (w : World) (n : Int) (hlo : -9223372036854775808 ≤ n) (hhi : n ≤ 9223372036854775807) : Calls Try.prog 35 #[.int .i64 n] w fun e w' => e = .returned (.string (bs (numT n))) ∧ Below w.heap.size w w' := by
  by_cases hin : -4611686018427387904 ≤ n ∧ n ≤ 4611686018427387903
  · have ht : (wrap63 n != n) = false := by rw [wrap63_self hin.1 hin.2]; simp
    obtain ⟨h1, h2⟩ := hin
    by_cases hn : n < 0
    · have HN := Lib.hid (numT_neg h1 hn)
      have hsz : (bs (decL (-n).toNat)).size ≤ 19 := by rw [bs_size]; exact decL_len 18 _ (by omega)
      go_enter Try.func35, Try.ntmps35
      go_wp2_with (first | (go_at_call 76; refine (spec_Wrap _ _).mono ?_; rintro e w' ⟨rfl, rfl⟩) | (go_at_call 77; refine (spec_l01Digits 18 _ _ (by omega) (by omega) (by omega)).mono ?_; rintro e w1 ⟨rfl, hb1⟩))
      go_ret
      exact ⟨congrArg (fun s => Ending.returned (.string s)) ((str_app [45] _).trans (congrArg bs HN.out.symm)), hb1⟩
    · have HN := Lib.hid (numT_pos h2 hn)
      go_enter Try.func35, Try.ntmps35
      go_wp2_with (first | (go_at_call 76; refine (spec_Wrap _ _).mono ?_; rintro e w' ⟨rfl, rfl⟩) | (go_at_call 77; refine (spec_l01Digits 18 _ _ (by omega) (by omega) (by omega)).mono ?_; rintro e w1 ⟨rfl, hb1⟩))
      go_ret
      exact ⟨ret_s HN.out.symm, hb1⟩
  · have ht : (wrap63 n != n) = true := by
      have := wrap63_bd n
      rw [bne_iff_ne]; omega
    have HN := Lib.hid (numT_out hin)
    go_enter Try.func35, Try.ntmps35
    go_wp2_with (first | (go_at_call 76; refine (spec_Wrap _ _).mono ?_; rintro e w' ⟨rfl, rfl⟩))
    go_ret
    exact ⟨ret_s HN.out.symm, Below.refl _ _⟩
end Go.Proofs.Ytokjkmibnjfkaaa
