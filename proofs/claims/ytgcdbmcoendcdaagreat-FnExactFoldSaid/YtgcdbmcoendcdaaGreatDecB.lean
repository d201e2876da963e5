import Derived.Test.YtgcdbmcoendcdaaGreatProg
import Derived.Test.YtgcdbmcoendcdaaGreatBase
import Derived.WalkKit
import Derived.Lib.Hide
import Derived.Deep.RegionWith
/- Byte slices that a call makes: appending, turning into a string. -/
set_option maxRecDepth 100000
namespace Go.Proofs.YtgcdbmcoendcdaaGreat
open Go.RowKit

def bs (l : List UInt8) : ByteArray := ⟨l.toArray⟩
theorem bs_list (l : List UInt8) : (bs l).data.toList = l := rfl
theorem bs_size (l : List UInt8) : (bs l).size = l.length := rfl
theorem bs_of (s : ByteArray) : bs s.data.toList = s := by cases s; rfl
theorem bs_inj {a b : List UInt8} : bs a = bs b ↔ a = b := ⟨fun h => by have := congrArg (fun s : ByteArray => s.data.toList) h; simpa [bs_list] using this, fun h => by rw [h]⟩

def byteV (b : UInt8) : Value := .int .u8 (b.toNat : Int)
theorem byteV_of {z : Int} (h0 : 0 ≤ z) (h1 : z < 256) : Value.int .u8 z = byteV (UInt8.ofNat z.toNat) := by
  unfold byteV
  rw [UInt8.toNat_ofNat']
  congr 1
  omega

theorem new_cells (w : World) (vs : List Value) (e : TypeId) : ∀ j u, vs[j]? = some u → (w.alloc (.cells vs.toArray e)).cell? ((⟨w.heap.size, 0, none⟩ : Addr).add j) = some u := by
  intro j u h
  rw [addr_add]
  simp only [World.cell?]
  have : (w.alloc (.cells vs.toArray e)).heap[w.heap.size]? = some (.cells vs.toArray e) := by show (w.heap.push _)[w.heap.size]? = _; simp
  rw [this]
  simpa using h

theorem info_u8 : (Tryz.prog.info? 5).map (fun i => (i.zero, i.size, i.bytes)) = some (some (.int .u8 0), 1, 1) := by kernel_rfl

def OwnB (w : World) (B : Nat) (v : Value) (out : List UInt8) : Prop := w.ownsRow B 5 1 v out.length (out.map byteV)
theorem OwnB.alloc {w : World} {B : Nat} {v : Value} {out : List UInt8} (h : OwnB w B v out) (o : Obj) : OwnB (w.alloc o) B v out := World.ownsRow.alloc h o
theorem OwnB.drew {w : World} {B : Nat} {v : Value} {out : List UInt8} (h : OwnB w B v out) : OwnB w.drew B v out := h
theorem OwnB.kept {w w' : World} {B C : Nat} {v : Value} {out : List UInt8} (h : OwnB w B v out) (hb : Below C w w') (hc : w.heap.size ≤ C) : OwnB w' B v out := by
  obtain ⟨h1, h2⟩ := h
  refine ⟨h1, h2.imp id fun ⟨g, cap, cur, e, hg, hh, r⟩ => ⟨g, cap, cur, e, hg, ?_, r⟩⟩
  have : g < w.heap.size := by
    rcases Nat.lt_or_ge g w.heap.size with hl | hl
    · exact hl
    · rw [Array.getElem?_eq_none hl] at hh; cases hh
  rw [hb.block g (by omega)]; exact hh
theorem OwnB.len {w : World} {B : Nat} {v : Value} {out : List UInt8} (h : OwnB w B v out) : ∃ a c, v = .slice a out.length c := by
  obtain ⟨h1, ⟨e, h2⟩ | ⟨g, cap, cur, e, _⟩⟩ := h
  · exact ⟨none, 0, by rw [e, h2]⟩
  · exact ⟨_, _, e⟩
theorem OwnB.nil (w : World) (B : Nat) : OwnB w B (.slice none 0 0) [] := World.ownsRow_nil w B _ 1
theorem OwnB.made (w : World) (B : Nat) (hB : B ≤ w.heap.size) (l : List UInt8) (hl : l.length ≤ maxLen) : OwnB (w.alloc (.cells (l.map byteV).toArray 5)) B (.slice (some ⟨w.heap.size, 0, none⟩) l.length l.length) l := by
  refine ⟨by simp, .inr ⟨w.heap.size, l.length, (l.map byteV).toArray, rfl, hB, ?_, Nat.le_refl _, hl, by simp, by simp [List.take_of_length_le]⟩⟩
  show (w.heap.push _)[w.heap.size]? = _
  simp

theorem app_u8 {ops : Array Oper} {rest : List Oper} {o : Oper} {a : Act} {Q : Exit → Act → World → Prop} (w : World) (hgd : o.guard = none) (s x : Operand)
    (ho : o.op = .call { callee := .builtin .append, args := #[s, x], argTypes := #[36, 36] })
    (B : Nat) (v : Value) (out : List UInt8) (hs : a.eval s = v) (hown : OwnB w B v out)
    (ad : Addr) (m c : Nat) (news : List UInt8) (hx : a.eval x = .slice (some ad) m c) (hl : news.length = m)
    (hnews : ∀ j u, (news.map byteV)[j]? = some u → w.cell? (ad.add j) = some u)
    (hroom : out.length + m ≤ 140737488355328) (hbase : B ≤ w.heap.size)
    (h : ∀ v' w', OwnB w' B v' (out ++ news) → w.grownBy w' v.ownBlock → wpList Tryz.prog ops Q rest (a.put o.dst v') w') : wpList Tryz.prog ops Q (o :: rest) a w := by
  obtain ⟨i, hi, hz0, hz1, hz2⟩ := info_parts info_u8
  refine wpList_append_own w hgd s x 36 ho B 5 i (.int .u8 0) 1 1 Tryz.underlying36 hi hz0 hz1 hz2 rfl (by decide) v out.length (out.map byteV) hs hown ad m c (news.map byteV) hx (by simp [hl]) hnews ?_ (by unfold maxLen; omega) (by omega) hbase ?_
  · intro u hu
    obtain ⟨b, _, rfl⟩ := List.mem_map.1 hu
    rfl
  · intro v' w' h1 h2 _
    refine h v' w' ?_ h2
    unfold OwnB
    rw [List.length_append, hl, List.map_append]
    exact h1

theorem run_bytes_str {w : World} {B : Nat} {v : Value} {out : List UInt8} (h : OwnB w B v out) :
    (Go.convert 36 9 v).run Tryz.prog w = .ok (.string (bs out)) w := by
  obtain ⟨h1, ⟨rfl, h2⟩ | ⟨g, cap, cur, rfl, hg, hh, hc, hm, hs, ht⟩⟩ := h
  · have : out = [] := by simpa using h2
    subst this
    exact run_convert_bytes_nil w 36 5 Tryz.underlying36 Tryz.underlying5 0 0 9 Tryz.underlying9
  · refine run_convert_bytes_back w 36 9 5 _ _ out Tryz.underlying36 Tryz.underlying5 Tryz.underlying9 (fun j hj => ?_)
    rw [addr_add]
    simp only [World.cell?, hh]
    rw [if_neg (by simp)]
    have e : cur.toList[j]? = (out.map byteV)[j]? := by
      rw [← ht, List.getElem?_take_of_lt (by omega)]
    rw [Nat.zero_add, ← Array.getElem?_toList, e, List.getElem?_map, List.getElem?_eq_getElem hj]
    rfl

theorem app_u8_lit {ops : Array Oper} {rest : List Oper} {o : Oper} {a : Act} {Q : Exit → Act → World → Prop} (w : World) (hgd : o.guard = none) (s x : Operand)
    (ho : o.op = .call { callee := .builtin .append, args := #[s, x], argTypes := #[36, 36] })
    (B : Nat) (v : Value) (out : List UInt8) (hs : a.eval s = v) (hown : OwnB w B v out)
    (vals : List Value) (hx : a.eval x = .slice (some ⟨w.heap.size, 0, none⟩) vals.length vals.length) (news : List UInt8) (hn : vals = news.map byteV)
    (hroom : out.length + vals.length ≤ 140737488355328) (hbase : B ≤ w.heap.size)
    (h : ∀ v' w', OwnB w' B v' (out ++ news) → Below B w w' → wpList Tryz.prog ops Q rest (a.put o.dst v') w') :
    wpList Tryz.prog ops Q (o :: rest) a (w.alloc (.cells vals.toArray 5)) := by
  subst hn
  refine app_u8 _ hgd s x ho B v out hs (hown.alloc _) ⟨w.heap.size, 0, none⟩ _ _ news hx (by simp) (new_cells w _ _) hroom ?_ ?_
  · have : (w.alloc (.cells (news.map byteV).toArray 5)).heap.size = w.heap.size + 1 := by simp
    omega
  · intro v' w' h1 h2
    refine h v' w' h1 (((Below.refl B w).alloc hbase _).grown h2 (by simp; omega) ?_)
    intro k hk
    exact (World.ownsRow.lt hown k hk).1

theorem run_str_one (z : Int) (d : UInt8) (hz : Value.int .u8 z = byteV d) (W : World) (b : Nat) (hc : W.cell? ⟨b, 0, none⟩ = some (.int .u8 z)) :
    (Go.convert 36 9 (.slice (some ⟨b, 0, none⟩) 1 1)).run Tryz.prog W = .ok (.string (bs [d])) W := by
  refine run_convert_bytes_back W 36 9 5 _ _ [d] Tryz.underlying36 Tryz.underlying5 Tryz.underlying9 (fun j hj => ?_)
  obtain rfl : j = 0 := by simpa using hj
  rw [addr_add]
  exact hc.trans (congrArg some hz)

theorem step_app_u8_lit {ops : Array Oper} {o : Oper} {a : Act} {K : Act → World → Prop} {Q : Exit → Act → World → Prop} {E : Prop} (w : World) (hgd : o.guard = none) (s x : Operand)
    (ho : o.op = .call { callee := .builtin .append, args := #[s, x], argTypes := #[36, 36] })
    (B : Nat) (v : Value) (out : List UInt8) (hs : a.eval s = v) (hown : OwnB w B v out)
    (vals : List Value) (hx : a.eval x = .slice (some ⟨w.heap.size, 0, none⟩) vals.length vals.length) (news : List UInt8) (hn : vals = news.map byteV)
    (hroom : out.length + vals.length ≤ 140737488355328) (hbase : B ≤ w.heap.size)
    (h : ∀ v' w', OwnB w' B v' (out ++ news) → Below B w w' → K (a.put o.dst v') w') :
    if Region.wanted o (yielded ops a.tmps) = true then Oper.wp Tryz.prog o a (w.alloc (.cells vals.toArray 5)) K Q else E := by
  rw [if_pos (by simp [Region.wanted, hgd])]
  subst hn
  obtain ⟨i, hi, hz0, hz1, hz2⟩ := info_parts info_u8
  refine wp_append_own _ s x 36 ho B 5 i (.int .u8 0) 1 1 Tryz.underlying36 hi hz0 hz1 hz2 rfl (by decide) v out.length (out.map byteV) hs (World.ownsRow.alloc hown _) ⟨w.heap.size, 0, none⟩ _ _ (news.map byteV) hx (by simp) (new_cells w _ _) ?_ ?_ ?_ ?_ ?_
  · intro u hu
    obtain ⟨b, _, rfl⟩ := List.mem_map.1 hu
    rfl
  · unfold maxLen; omega
  · omega
  · have : (w.alloc (.cells (news.map byteV).toArray 5)).heap.size = w.heap.size + 1 := by simp
    omega
  · intro v' w' h1 h2 _
    refine h v' w' ?_ (((Below.refl B w).alloc hbase _).grown h2 (by simp; omega) ?_)
    · unfold OwnB
      rw [List.length_append, List.map_append]
      rw [List.length_map] at h1
      exact h1
    · intro k hk
      exact (World.ownsRow.lt hown k hk).1
end Go.Proofs.YtgcdbmcoendcdaaGreat

namespace Go.Proofs.YtgcdbmcoendcdaaGreat

def dgt (d : Nat) : UInt8 := UInt8.ofNat (48 + d)
theorem dgt_nat {d : Nat} (h : d < 10) : (dgt d).toNat = 48 + d := by
  unfold dgt; rw [UInt8.toNat_ofNat']; omega
def decL (n : Nat) : List UInt8 := if n < 10 then [dgt n] else decL (n / 10) ++ [dgt (n % 10)]
theorem decL_small {n : Nat} (h : n < 10) : decL n = [dgt n] := by rw [decL, if_pos h]
theorem decL_big {n : Nat} (h : ¬ n < 10) : decL n = decL (n / 10) ++ [dgt (n % 10)] := by rw [decL, if_neg h]
theorem decL_pos (n : Nat) : 0 < (decL n).length := by
  by_cases h : n < 10
  · rw [decL_small h]; simp
  · rw [decL_big h]; simp
theorem decL_len : ∀ (k n : Nat), n < 10 ^ (k + 1) → (decL n).length ≤ k + 1
  | 0, n, h => by rw [decL_small (by simpa using h)]; simp
  | k + 1, n, h => by
    by_cases h' : n < 10
    · rw [decL_small h']; simp
    · rw [decL_big h', List.length_append]
      have := decL_len k (n / 10) (by rw [Nat.pow_succ] at h; omega)
      simp; omega
def DecInv (N n : Nat) (out : List UInt8) : Prop :=
  ((0 < n ∨ out = []) → decL N = decL n ++ out.reverse) ∧ (n = 0 → out ≠ [] → decL N = out.reverse)
theorem DecInv.start (N : Nat) : DecInv N N [] := ⟨fun _ => by simp, fun _ h => absurd rfl h⟩
theorem DecInv.step {N n : Nat} {out : List UInt8} (h : DecInv N n out) (hc : 0 < n ∨ out = []) : DecInv N (n / 10) (out ++ [dgt (n % 10)]) := by
  have e := h.1 hc
  refine ⟨fun hc' => ?_, fun hz _ => ?_⟩
  · have : 0 < n / 10 := by rcases hc' with h | h
                            · exact h
                            · simp at h
    rw [e, decL_big (by omega)]; simp
  · rw [e, decL_small (by omega), Nat.mod_eq_of_lt (by omega)]; simp
theorem DecInv.done {N n : Nat} {out : List UInt8} (h : DecInv N n out) (hc : ¬ (0 < n ∨ out = [])) : decL N = out.reverse :=
  h.2 (by omega) (fun e => hc (.inr e))

def numT (n : Int) : List UInt8 :=
  if -4611686018427387904 ≤ n ∧ n ≤ 4611686018427387903 then (if n < 0 then 45 :: decL n.natAbs else decL n.natAbs) else []
theorem numT_out {n : Int} (h : ¬ (-4611686018427387904 ≤ n ∧ n ≤ 4611686018427387903)) : numT n = [] := by rw [numT, if_neg h]
theorem numT_neg {n : Int} (h : -4611686018427387904 ≤ n) (h0 : n < 0) : numT n = 45 :: decL (-n).toNat := by
  rw [numT, if_pos ⟨h, by omega⟩, if_pos h0]; congr 2; omega
theorem numT_pos {n : Int} (h : n ≤ 4611686018427387903) (h0 : ¬ n < 0) : numT n = decL n.toNat := by
  rw [numT, if_pos ⟨by omega, h⟩, if_neg h0]; congr 1; omega
theorem numT_len (n : Int) : (numT n).length ≤ 20 := by
  unfold numT
  split
  · have := decL_len 18 n.natAbs (by omega)
    split <;> simp <;> omega
  · simp

def swp (l : List UInt8) (i j : Nat) : List UInt8 := (l.set i (l.getD j 0)).set j (l.getD i 0)
def revTo (l : List UInt8) (k : Nat) : List UInt8 := (List.range l.length).map fun p => if p < k ∨ l.length - k ≤ p then l.getD (l.length - 1 - p) 0 else l.getD p 0
theorem revTo_length (l : List UInt8) (k : Nat) : (revTo l k).length = l.length := by simp [revTo]
theorem revTo_getD (l : List UInt8) (k p : Nat) (h : p < l.length) : (revTo l k).getD p 0 = if p < k ∨ l.length - k ≤ p then l.getD (l.length - 1 - p) 0 else l.getD p 0 := by
  simp [revTo, List.getD_eq_getElem?_getD, List.getElem?_map, List.getElem?_range h]
theorem list_ext_getD {a b : List UInt8} (h : a.length = b.length) (h2 : ∀ p, p < a.length → a.getD p 0 = b.getD p 0) : a = b := by
  apply List.ext_getElem h
  intro p h1 h3
  have := h2 p h1
  simpa [List.getD_eq_getElem?_getD, List.getElem?_eq_getElem h1, List.getElem?_eq_getElem h3] using this
theorem revTo_zero (l : List UInt8) : revTo l 0 = l := list_ext_getD (revTo_length _ _) fun p h => by
  rw [revTo_length] at h
  rw [revTo_getD _ _ _ h, if_neg (by omega)]
theorem revTo_succ (l : List UInt8) (k : Nat) (h : k < l.length - 1 - k) : swp (revTo l k) k (l.length - 1 - k) = revTo l (k + 1) := by
  refine list_ext_getD (by simp [swp, revTo_length]) fun p hp => ?_
  have hp' : p < l.length := by simpa [swp, revTo_length] using hp
  rw [revTo_getD _ _ _ hp']
  unfold swp
  rw [revTo_getD _ _ _ (by omega), revTo_getD _ _ _ (by omega)]
  simp only [List.getD_eq_getElem?_getD, List.getElem?_set, List.length_set, revTo_length]
  by_cases e1 : l.length - 1 - k = p
  · subst e1
    rw [if_pos rfl, if_pos (by omega), if_neg (by omega), if_pos (by omega)]
    simp [show l.length - 1 - (l.length - 1 - k) = k by omega]
  · rw [if_neg e1]
    by_cases e2 : k = p
    · subst e2
      rw [if_pos rfl, if_pos (by omega), if_neg (by omega), if_pos (by omega)]
      simp
    · rw [if_neg e2]
      have := revTo_getD l k p hp'
      rw [List.getD_eq_getElem?_getD] at this
      rw [this]
      by_cases c : p < k ∨ l.length - k ≤ p
      · rw [if_pos c, if_pos (by omega)]; simp [List.getD_eq_getElem?_getD]
      · rw [if_neg c, if_neg (by omega)]; simp [List.getD_eq_getElem?_getD]
theorem revTo_end (l : List UInt8) (k : Nat) (h : ¬ k < l.length - 1 - k) : revTo l k = l.reverse := by
  refine list_ext_getD (by simp [revTo_length]) fun p hp => ?_
  have hp' : p < l.length := by simpa [revTo_length] using hp
  rw [revTo_getD _ _ _ hp']
  have e : l.reverse.getD p 0 = l.getD (l.length - 1 - p) 0 := by
    simp [List.getD_eq_getElem?_getD, List.getElem?_reverse hp']
  rw [e]
  by_cases c : p < k ∨ l.length - k ≤ p
  · rw [if_pos c]
  · rw [if_neg c]; congr 1; omega
end Go.Proofs.YtgcdbmcoendcdaaGreat

namespace Go.Proofs.YtgcdbmcoendcdaaGreat
open Go.RowKit

theorem spec_Wrap (w : World) (n : Int) : Calls Tryz.prog 250 #[.int .i64 n] w fun e w' => e = .returned (.int .i64 (wrap63 n)) ∧ w = w' := by
  go_enter Tryz.func250, Tryz.ntmps250
  go_wp2
  go_ret
  exact ⟨rfl, rfl⟩
theorem ret_i {a b : Int} (h : a = b) : Ending.returned (.int .i64 a) = .returned (.int .i64 b) := by rw [h]
theorem ret_ib {a b : Int} {x : Bool} (h : a = b) : Ending.returned (.tuple #[.int .i64 a, .bool x]) = .returned (.tuple #[.int .i64 b, .bool x]) := by rw [h]
theorem val_i {a b : Int} (h : a = b) : Value.int .i64 a = .int .i64 b := by rw [h]
end Go.Proofs.YtgcdbmcoendcdaaGreat

namespace Go.Proofs.YtgcdbmcoendcdaaGreat
open Go.RowKit

theorem OwnB.parts {w : World} {B g n c : Nat} {out : List UInt8} (h : OwnB w B (.slice (some ⟨g, 0, none⟩) n c) out) :
    n = out.length ∧ B ≤ g ∧ (∀ j, j < out.length → w.cell? ⟨g, j, none⟩ = some (byteV (out.getD j 0))) ∧ (∀ j, w.frozen? ⟨g, j, none⟩ = false) ∧ g < w.heap.size := by
  obtain ⟨h1, ⟨e, h2⟩ | ⟨g', cap, cur, e, hg, hh, hc, hm, hs, ht⟩⟩ := h
  · cases e
  · injection e with e e2 e3
    injection e with e
    injection e with e
    subst e
    refine ⟨e2, hg, fun j hj => ?_, fun j => ?_, ?_⟩
    · simp only [World.cell?, hh]
      rw [if_neg (by simp)]
      have e : cur.toList[j]? = (out.map byteV)[j]? := by rw [← ht, List.getElem?_take_of_lt (by omega)]
      rw [← Array.getElem?_toList, e, List.getElem?_map, List.getElem?_eq_getElem hj]
      simp [List.getD_eq_getElem?_getD, List.getElem?_eq_getElem hj]
    · simp [World.frozen?, hh]
    · rcases Nat.lt_or_ge g w.heap.size with hl | hl
      · exact hl
      · rw [Array.getElem?_eq_none hl] at hh; cases hh
theorem OwnB.set {w : World} {B g n c : Nat} {out : List UInt8} (h : OwnB w B (.slice (some ⟨g, 0, none⟩) n c) out) (j : Nat) (b : UInt8) (_hj : j < out.length) :
    OwnB (w.setCell ⟨g, j, none⟩ (byteV b)) B (.slice (some ⟨g, 0, none⟩) n c) (out.set j b) := by
  obtain ⟨h1, ⟨e, h2⟩ | ⟨g', cap, cur, e, hg, hh, hc, hm, hs, ht⟩⟩ := h
  · cases e
  · injection e with e e2 e3
    injection e with e
    injection e with e
    subst e
    refine ⟨by simp, .inr ⟨g, cap, cur.setIfInBounds j (byteV b), by rw [e3, e2]; simp, hg, ?_, by simpa using hc, hm, by simpa using hs, ?_⟩⟩
    · simp only [World.setCell, Array.getElem?_modify, if_true, hh, Option.map_some]
      rw [if_neg (by simp)]
    · rw [Array.toList_setIfInBounds, List.length_set, List.map_set, ← ht, List.take_set]
theorem OwnB.ne_nil {w : World} {B : Nat} {v : Value} {out : List UInt8} (h : OwnB w B v out) (hne : 0 < out.length) : ∃ g c, v = .slice (some ⟨g, 0, none⟩) out.length c := by
  obtain ⟨h1, ⟨rfl, h2⟩ | ⟨g', cap, cur, e, _⟩⟩ := h
  · omega
  · exact ⟨_, _, e⟩
def RevPost (w : World) (B : Nat) (v : Value) (l : List UInt8) (w' : World) : Prop := OwnB w' B v l.reverse ∧ Below B w w'
theorem slices_Reverse (w : World) (B : Nat) (v : Value) (l : List UInt8) (hv : OwnB w B v l) (hl : l.length ≤ 1000000) : Calls Tryz.prog 144 #[v] w fun e w' => e = .returned (.tuple #[]) ∧ RevPost w B v l w' := by
  have HO := Lib.hid hv
  obtain ⟨a, c, rfl⟩ := hv.len
  clear hv
  go_enter Tryz.func144, Tryz.ntmps144
  go_wp2
  go_loopw [2, 3] (fun i j wr => ∃ k : Nat, k ≤ l.length ∧ i = .int .i64 k ∧ j = .int .i64 ((l.length : Int) - 1 - k) ∧ OwnB wr B (.slice a l.length c) (revTo l k) ∧ Below B w wr) (fun i _ _ => l.length - (intOf i).toNat)
  case atStart => exact ⟨0, Nat.zero_le _, rfl, by simp, by rw [revTo_zero]; exact HO.out, Below.refl _ _⟩
  case round =>
    obtain ⟨k, hk, rfl, rfl, hown, hbel⟩ := hrel
    by_cases hlt : k < l.length - 1 - k
    · have hlt' : (k : Int) < (l.length : Int) - 1 - k := by omega
      obtain ⟨g, c', e⟩ := hown.ne_nil (by rw [revTo_length]; omega)
      injection e with e1 e2 e3
      subst e1; subst e3
      obtain ⟨-, hB, hcell, hfr, hg⟩ := hown.parts
      have c1 := hcell k (by rw [revTo_length]; omega)
      have c2 := hcell (l.length - 1 - k) (by rw [revTo_length]; omega)
      have f1 := hfr k
      have f2 := hfr (l.length - 1 - k)
      have HO2 := Lib.hid hown
      have HS := Lib.hid (revTo_succ l k hlt)
      obtain ⟨x1, hx1⟩ : ∃ x : UInt8, (revTo l k).getD k 0 = x := ⟨_, rfl⟩
      obtain ⟨x2, hx2⟩ : ∃ x : UInt8, (revTo l k).getD (l.length - 1 - k) 0 = x := ⟨_, rfl⟩
      rw [hx1] at c1
      rw [hx2] at c2
      unfold byteV at c1 c2
      have HX := Lib.hid (And.intro hx1 hx2)
      clear hcell hfr hown e2 hx1 hx2
      have b1 : (k : Int) ≤ (l.length : Int) - 1 := by omega
      have b2 : (l.length : Int) - 1 - k < l.length := by omega
      have b3 : 0 ≤ (l.length : Int) - 1 - k := by omega
      have b4 : (k : Int) < l.length := by omega
      go_wp2
      go_region
      go_wp2
      go_roundw
      case rel =>
        refine ⟨k + 1, by omega, by go_num, by rw [show ((l.length : Int) - 1 - k - 1) = (l.length : Int) - 1 - ((k + 1 : Nat) : Int) from by omega], ?_, ?_⟩
        · have h1 := (HO2.out.set k x2 (by rw [revTo_length]; omega)).set (l.length - 1 - k) x1 (by simp [revTo_length]; omega)
          have e : ((revTo l k).set k x2).set (l.length - 1 - k) x1 = revTo l (k + 1) := by
            rw [← HS.out, swp, HX.out.1, HX.out.2]
          rw [e] at h1
          exact h1.drew
        · exact ((hbel.setCell hB _).setCell hB _).drew
      case measure => simp [intOf]; omega
    · have hlt' : (l.length : Int) - 1 - k ≤ (k : Int) := by omega
      have HS := Lib.hid (revTo_end l k hlt)
      have HO2 := Lib.hid hown
      clear hown
      go_wp2
      go_end0
      exact ⟨rfl, HS.out ▸ HO2.out, hbel⟩

theorem ret_s {a b : List UInt8} (h : a = b) : Ending.returned (.string (bs a)) = .returned (.string (bs b)) := by rw [h]
theorem slice_len {w : World} {B : Nat} {v : Value} {out : List UInt8} (h : OwnB w B v out) : ∃ a c, v = .slice a out.length c := h.len

theorem dgtV {d : Nat} (h : d < 10) : Value.int .u8 (48 + (d : Int)) = byteV (dgt d) := by
  unfold byteV; rw [dgt_nat h]; simp
def len0 (v : Value) : Nat := match v with | .slice _ 0 _ => 1 | _ => 0
theorem len0_pos {a : Option Addr} {n c : Nat} (h : 0 < n) : len0 (.slice a n c) = 0 := by
  cases n with
  | zero => omega
  | succ n => rfl
theorem len0_own {w : World} {B : Nat} {v : Value} {out : List UInt8} {b : UInt8} (h : OwnB w B v (out ++ [b])) : len0 v = 0 := by
  obtain ⟨a, c, rfl⟩ := h.len
  exact len0_pos (by simp)
theorem DecInv.len {N n : Nat} {out : List UInt8} (h : DecInv N n out) (hc : 0 < n ∨ out = []) (hN : N < 10 ^ 19) : out.length ≤ 19 := by
  have e := congrArg List.length (h.1 hc)
  have := decL_len 18 N hN
  rw [List.length_append, List.length_reverse] at e
  omega
theorem impl_digits (w : World) (n : Int) (h0 : 0 ≤ n) (h1 : n ≤ 9223372036854775807) : Calls Tryz.prog 59 #[.int .i64 n] w fun e w' => e = .returned (.string (bs (decL n.toNat))) ∧ Below w.heap.size w w' := by
  obtain ⟨N, rfl⟩ := Int.eq_ofNat_of_zero_le h0
  rw [Int.toNat_natCast]
  have hb0 : Below w.heap.size w w := Below.refl _ _
  go_enter Tryz.func59, Tryz.ntmps59
  go_wp2
  go_loopw [0, 3] (fun i v wr => ∃ (n : Nat) (out : List UInt8), n ≤ N ∧ i = .int .i64 n ∧ OwnB wr w.heap.size v out ∧ DecInv N n out ∧ Below w.heap.size w wr) (fun i v _ => (intOf i).toNat + len0 v)
  case atStart => exact ⟨N, [], Nat.le_refl _, rfl, OwnB.made w _ (Nat.le_refl _) [] (by decide), DecInv.start N, hb0.alloc (Nat.le_refl _) _⟩
  case round =>
    obtain ⟨n, out, hn, rfl, hown, hinv, hbel⟩ := hrel
    obtain ⟨a, c, rfl⟩ := hown.len
    have HO := Lib.hid hown
    have HI := Lib.hid hinv
    clear hown hinv
    by_cases hc : 0 < n ∨ out = []
    · have hl := HI.out.len hc (by omega)
      have HS := Lib.hid (HI.out.step hc)
      have HV := Lib.hid (dgtV (d := n % 10) (by omega))
      by_cases hn0 : 0 < n
      · clear hc
        go_wp2_with (first | (at_builtin; refine app_u8_lit wr rfl _ _ rfl w.heap.size (.slice a out.length c) out rfl HO.out _ rfl [dgt (n % 10)] ?_ ?_ ?_ ?_))
        · exact congrArg (fun x => [x]) HV.out
        · simp; omega
        · exact hbel.size
        · intro v' w' hown' hb'
          go_wp2
          go_roundw
          case rel => exact ⟨n / 10, out ++ [dgt (n % 10)], by omega, by go_num, hown', HS.out, hbel.trans hb'⟩
          case measure =>
            rw [len0_own hown']
            simp [intOf]; omega
      · obtain rfl : n = 0 := by omega
        obtain rfl : out = [] := by rcases hc with hc | hc; omega; exact hc
        clear hc
        go_wp2_with (first | (at_builtin; refine app_u8_lit wr rfl _ _ rfl w.heap.size (.slice a 0 c) [] rfl HO.out _ rfl [dgt 0] ?_ ?_ ?_ ?_))
        · exact congrArg (fun x => [x]) HV.out
        · simp
        · exact hbel.size
        · intro v' w' hown' hb'
          go_wp2
          go_roundw
          case rel => exact ⟨0, [dgt 0], by omega, by go_num, hown', HS.out, hbel.trans hb'⟩
          case measure =>
            rw [len0_own (out := []) hown']
            simp [intOf, len0]
    · have HD := Lib.hid (HI.out.done hc)
      have HL := Lib.hid (show out.length ≤ 19 by
        have e := congrArg List.length (HI.out.done hc)
        have := decL_len 18 N (by omega)
        rw [List.length_reverse] at e
        omega)
      obtain ⟨z1, z2⟩ : n = 0 ∧ out ≠ [] := by constructor; omega; exact fun e => hc (.inr e)
      subst z1
      have z3 : ((out.length : Int) == 0) = false := by simpa using z2
      clear hc z2
      go_wp2_with (first | (go_at_call 144; refine (slices_Reverse _ w.heap.size _ out HO.out (by have := HL.out; omega)).mono ?_; rintro e w1 ⟨rfl, hr1, hr2⟩))
      have hcv := run_bytes_str hr1
      go_wp2
      simp only [hcv]
      go_wp2
      go_ret
      exact ⟨ret_s HD.out.symm, hbel.trans hr2⟩

theorem str_app (l m : List UInt8) : (bs l ++ bs m) = bs (l ++ m) := by
  apply bytes_ext
  show ((bs l).append (bs m)).data.toList = _
  simp [bs, ByteArray.append]

theorem impl_NumText (w : World) (n : Int) (hlo : -9223372036854775808 ≤ n) (hhi : n ≤ 9223372036854775807) : Calls Tryz.prog 63 #[.int .i64 n] w fun e w' => e = .returned (.string (bs (numT n))) ∧ Below w.heap.size w w' := by
  by_cases hin : -4611686018427387904 ≤ n ∧ n ≤ 4611686018427387903
  · have ht : (decide (-4611686018427387904 ≤ n) && decide (n ≤ 4611686018427387903)) = true := by simp [hin]
    have HT := Lib.hid ht
    obtain ⟨h1, h2⟩ := hin
    clear ht
    by_cases hn : n < 0
    · have HN := Lib.hid (numT_neg h1 hn)
      have hsz : (bs (decL (-n).toNat)).size ≤ 19 := by rw [bs_size]; exact decL_len 18 _ (by omega)
      go_enter Tryz.func63, Tryz.ntmps63
      go_wp2_with (first | (go_at_call 65; refine (impl_within _ _ _ _).mono ?_; rintro e w' ⟨rfl, rfl⟩) | (go_at_call 59; refine (impl_digits _ _ (by omega) (by omega)).mono ?_; rintro e w1 ⟨rfl, hb1⟩))
      go_ret
      exact ⟨congrArg (fun s => Ending.returned (.string s)) ((str_app [45] _).trans (congrArg bs HN.out.symm)), hb1⟩
    · have HN := Lib.hid (numT_pos h2 hn)
      go_enter Tryz.func63, Tryz.ntmps63
      go_wp2_with (first | (go_at_call 65; refine (impl_within _ _ _ _).mono ?_; rintro e w' ⟨rfl, rfl⟩) | (go_at_call 59; refine (impl_digits _ _ (by omega) (by omega)).mono ?_; rintro e w1 ⟨rfl, hb1⟩))
      go_ret
      exact ⟨ret_s HN.out.symm, hb1⟩
  · have ht : (decide (-4611686018427387904 ≤ n) && decide (n ≤ 4611686018427387903)) = false := by grind
    have HN := Lib.hid (numT_out hin)
    go_enter Tryz.func63, Tryz.ntmps63
    go_wp2_with (first | (go_at_call 65; refine (impl_within _ _ _ _).mono ?_; rintro e w' ⟨rfl, rfl⟩))
    go_ret
    exact ⟨ret_s HN.out.symm, Below.refl _ _⟩


theorem spec_l01Digits : ∀ (k : Nat) (w : World) (n : Int), n ≤ 0 → -(10 : Int) ^ (k + 1) < n → -9223372036854775808 ≤ n →
    Calls Tryz.prog 257 #[.int .i64 n] w fun e w' => e = .returned (.string (bs (decL (-n).toNat))) ∧ Below w.heap.size w w' := by
  have small : ∀ (w : World) (n : Int), n ≤ 0 → -10 < n → Calls Tryz.prog 257 #[.int .i64 n] w fun e w' => e = .returned (.string (bs (decL (-n).toNat))) ∧ Below w.heap.size w w' := by
    intro w n h0 h1
    have hv : Value.int .u8 (48 - n) = byteV (dgt (-n).toNat) := by
      rw [← dgtV (by omega)]; congr 1; omega
    have hcv := run_str_one (48 - n) _ hv
    have HN := Lib.hid (decL_small (n := (-n).toNat) (by omega))
    clear hv
    go_enter Tryz.func257, Tryz.ntmps257
    go_wp2
    go_ret
    exact ⟨ret_s HN.out.symm, (Below.refl _ _).alloc (Nat.le_refl _) _⟩
  intro k
  induction k with
  | zero => intro w n h0 h1 _; exact small w n h0 (by simpa using h1)
  | succ k ih =>
    intro w n h0 h1 hlo
    by_cases hs : -10 < n
    · exact small w n h0 hs
    · have hp : (10 : Int) ^ (k + 1 + 1) = 10 ^ (k + 1) * 10 := Int.pow_succ _ _
      have hq : n.tdiv 10 = -((-n) / 10) := by
        rw [show n = -(-n) from by omega, Int.neg_tdiv, Int.tdiv_eq_ediv_of_nonneg (by omega)]; simp
      have hm : n.tmod 10 = -((-n) % 10) := by
        rw [show n = -(-n) from by omega, Int.neg_tmod, Int.tmod_eq_emod_of_nonneg (by omega)]; simp
      have q1 : n.tdiv 10 ≤ 0 := by omega
      have q2 : -(10 : Int) ^ (k + 1) < n.tdiv 10 := by omega
      have q3 : -9223372036854775808 ≤ n.tdiv 10 := by omega
      have r1 : -10 < n.tmod 10 := by omega
      have r2 : n.tmod 10 ≤ 0 := by omega
      have hv : Value.int .u8 (48 - n.tmod 10) = byteV (dgt ((-n).toNat % 10)) := by
        rw [← dgtV (by omega)]; congr 1; omega
      have hcv := run_str_one (48 - n.tmod 10) _ hv
      have HN := Lib.hid (decL_big (n := (-n).toNat) (by omega))
      have HQ := Lib.hid (show (-(n.tdiv 10)).toNat = (-n).toNat / 10 by omega)
      have ih' := Lib.hid ih
      clear hv ih hp hq hm
      have z1 : (bs (decL (-n.tdiv 10).toNat)).size ≤ 19 := by rw [bs_size]; exact decL_len 18 _ (by omega)
      have z2 : (bs [dgt ((-n).toNat % 10)]).size ≤ 1 := by rw [bs_size]; simp
      have z3 : ¬ 9223372036854775807 < (bs (decL (-n.tdiv 10).toNat)).size + (bs [dgt ((-n).toNat % 10)]).size := by omega
      have e1 : IntKind.i64.wrap (n.tdiv 10) = n.tdiv 10 := IntWalk.i64_in _ (by omega)
      have e2 : IntKind.i64.wrap (48 - n.tmod 10) = 48 - n.tmod 10 := IntWalk.i64_in _ (by omega)
      have e3 : IntKind.u8.wrap (48 - n.tmod 10) = 48 - n.tmod 10 := IntWalk.u8_in _ (by omega)
      go_enter Tryz.func257, Tryz.ntmps257
      go_wp2_with fail
      go_region_with (go_at_call 257; refine (ih'.out _ _ q1 q2 q3).mono ?_; rintro e w1 ⟨rfl, hb1⟩; first | (have hc1 : w1.cell? ⟨w.heap.size, 0, none⟩ = some (.int .u8 (48 - n.tmod 10)) := cell_kept hb1 (new_cell0 w.drew _ _)) | skip)
      all_goals
        go_wp2
        go_ret
        refine ⟨congrArg (fun s => Ending.returned (.string s)) ((str_app _ _).trans (congrArg bs (by rw [HN.out, HQ.out]))), ?_⟩
      · exact ((Below.refl _ _).drew.trans hb1).alloc hb1.size _
      · exact (((Below.refl _ _).drew.alloc (Nat.le_refl _) _).trans (hb1.mono (by simp)))
      · exact (((Below.refl _ _).drew.alloc (Nat.le_refl _) _).trans (hb1.mono (by simp)))
theorem spec_NumText (w : World) (n : Int) (hlo : -9223372036854775808 ≤ n) (hhi : n ≤ 9223372036854775807) : Calls Tryz.prog 237 #[.int .i64 n] w fun e w' => e = .returned (.string (bs (numT n))) ∧ Below w.heap.size w w' := by
  by_cases hin : -4611686018427387904 ≤ n ∧ n ≤ 4611686018427387903
  · have ht : (wrap63 n != n) = false := by rw [wrap63_self hin.1 hin.2]; simp
    obtain ⟨h1, h2⟩ := hin
    by_cases hn : n < 0
    · have HN := Lib.hid (numT_neg h1 hn)
      have hsz : (bs (decL (-n).toNat)).size ≤ 19 := by rw [bs_size]; exact decL_len 18 _ (by omega)
      go_enter Tryz.func237, Tryz.ntmps237
      go_wp2_with (first | (go_at_call 250; refine (spec_Wrap _ _).mono ?_; rintro e w' ⟨rfl, rfl⟩) | (go_at_call 257; refine (spec_l01Digits 18 _ _ (by omega) (by omega) (by omega)).mono ?_; rintro e w1 ⟨rfl, hb1⟩))
      go_ret
      exact ⟨congrArg (fun s => Ending.returned (.string s)) ((str_app [45] _).trans (congrArg bs HN.out.symm)), hb1⟩
    · have HN := Lib.hid (numT_pos h2 hn)
      go_enter Tryz.func237, Tryz.ntmps237
      go_wp2_with (first | (go_at_call 250; refine (spec_Wrap _ _).mono ?_; rintro e w' ⟨rfl, rfl⟩) | (go_at_call 257; refine (spec_l01Digits 18 _ _ (by omega) (by omega) (by omega)).mono ?_; rintro e w1 ⟨rfl, hb1⟩))
      go_ret
      exact ⟨ret_s HN.out.symm, hb1⟩
  · have ht : (wrap63 n != n) = true := by
      have := wrap63_bd n
      rw [bne_iff_ne]; omega
    have HN := Lib.hid (numT_out hin)
    go_enter Tryz.func237, Tryz.ntmps237
    go_wp2_with (first | (go_at_call 250; refine (spec_Wrap _ _).mono ?_; rintro e w' ⟨rfl, rfl⟩))
    go_ret
    exact ⟨ret_s HN.out.symm, Below.refl _ _⟩
end Go.Proofs.YtgcdbmcoendcdaaGreat
