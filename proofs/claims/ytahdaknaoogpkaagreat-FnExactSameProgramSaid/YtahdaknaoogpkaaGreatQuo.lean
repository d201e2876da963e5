import Derived.Test.YtahdaknaoogpkaaGreatDecB
/- Quoting: no program in sight. -/
namespace Go.Proofs.YtahdaknaoogpkaaGreat
open Go.RowKit

def hexI (n : Int) : Int := if n < 10 then 48 + n else 87 + n
theorem hexI_bd {n : Int} (h0 : 0 ≤ n) (h1 : n < 16) : 48 ≤ hexI n ∧ hexI n ≤ 102 := by unfold hexI; split <;> omega
def hexB (n : Nat) : UInt8 := UInt8.ofNat (hexI n).toNat
theorem hexV {n : Int} (h0 : 0 ≤ n) (h1 : n < 16) : Value.int .u8 (hexI n) = byteV (hexB n.toNat) := by
  have := hexI_bd h0 h1
  rw [byteV_of (by omega) (by omega), hexB, Int.toNat_of_nonneg h0]
def quoB (b : UInt8) : List UInt8 :=
  if b.toNat = 10 then [92, 110] else if b.toNat = 34 ∨ b.toNat = 92 then [92, b] else if 32 ≤ b.toNat ∧ b.toNat ≤ 126 then [b]
  else [92, 120, hexB (b.toNat / 16), hexB (b.toNat % 16)]
theorem quoB_n {b : UInt8} (h : b.toNat = 10) : quoB b = [92, 110] := by rw [quoB, if_pos h]
theorem quoB_e {b : UInt8} (h0 : ¬ b.toNat = 10) (h : b.toNat = 34 ∨ b.toNat = 92) : quoB b = [92, b] := by rw [quoB, if_neg h0, if_pos h]
theorem quoB_p {b : UInt8} (h0 : ¬ b.toNat = 10) (h : ¬ (b.toNat = 34 ∨ b.toNat = 92)) (h2 : 32 ≤ b.toNat ∧ b.toNat ≤ 126) : quoB b = [b] := by rw [quoB, if_neg h0, if_neg h, if_pos h2]
theorem quoB_x {b : UInt8} (h0 : ¬ b.toNat = 10) (h : ¬ (b.toNat = 34 ∨ b.toNat = 92)) (h2 : ¬ (32 ≤ b.toNat ∧ b.toNat ≤ 126)) : quoB b = [92, 120, hexB (b.toNat / 16), hexB (b.toNat % 16)] := by rw [quoB, if_neg h0, if_neg h, if_neg h2]
theorem quoB_len (b : UInt8) : (quoB b).length ≤ 4 := by unfold quoB; split; simp; split; simp; split <;> simp
def quoP (l : List UInt8) (k : Nat) : List UInt8 := 34 :: (l.take k).flatMap quoB
def quoL (l : List UInt8) : List UInt8 := 34 :: l.flatMap quoB ++ [34]
theorem quoP_zero (l : List UInt8) : quoP l 0 = [34] := by simp [quoP]
theorem quoP_succ (l : List UInt8) (k : Nat) (h : k < l.length) : quoP l (k + 1) = quoP l k ++ quoB l[k] := by
  unfold quoP
  rw [List.take_succ_eq_append_getElem h, List.flatMap_append]; simp
theorem quoP_end (l : List UInt8) (k : Nat) (h : k = l.length) : quoP l k ++ [34] = quoL l := by
  subst h; simp [quoP, quoL]
theorem quoP_len (l : List UInt8) : ∀ k, (quoP l k).length ≤ 4 * k + 1
  | 0 => by simp [quoP]
  | k + 1 => by
    by_cases h : k < l.length
    · rw [quoP_succ l k h, List.length_append]
      have := quoP_len l k
      have := quoB_len l[k]
      omega
    · have e : quoP l (k + 1) = quoP l k := by unfold quoP; rw [List.take_of_length_le (by omega), List.take_of_length_le (by omega)]
      rw [e]; have := quoP_len l k; omega
theorem quoL_len (l : List UInt8) : (quoL l).length ≤ 4 * l.length + 2 := by
  rw [← quoP_end l l.length rfl, List.length_append]
  have := quoP_len l l.length
  simp; omega
end Go.Proofs.YtahdaknaoogpkaaGreat
