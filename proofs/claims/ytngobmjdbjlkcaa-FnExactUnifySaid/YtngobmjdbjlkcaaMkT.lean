import Derived.Test.YtngobmjdbjlkcaaGw
import Derived.Test.YtngobmjdbjlkcaaDecB
/- The text of a mark, and laws.markText. -/
namespace Go.Proofs.Ytngobmjdbjlkcaa
set_option linter.unusedVariables false
set_option linter.unusedSimpArgs false
open Go.RowKit
/-- the text of a mark. -/
def markT (k : Int) : List UInt8 := 109 :: decL k.toNat
theorem markT_len {k : Int} (h : k ≤ 4611686018427387904) : (markT k).length ≤ 20 := by
  have := decL_len 18 k.toNat (by omega)
  unfold markT; simp; omega
theorem markT_pos {K : Nat} (l : List UInt8) (h : decL K = l) : (⟨#[109]⟩ : ByteArray) ++ bs l = bs (markT (K : Int)) := by
  unfold markT; rw [Int.toNat_natCast, h]; exact str_app [109] l
def mInv (K n : Nat) (l : List UInt8) : Prop := (0 < n → decL K = decL n ++ l) ∧ (n = 0 → decL K = l) ∧ l.length ≤ 20
theorem mInv_step {K n : Nat} {l : List UInt8} (h : mInv K n l) (h0 : 0 < n) (hK : K ≤ 4611686018427387904) : mInv K (n / 10) (dgt (n % 10) :: l) := by
  have e := h.1 h0
  have key : decL K = (if 0 < n / 10 then decL (n / 10) ++ (dgt (n % 10) :: l) else dgt (n % 10) :: l) := by
    by_cases q : 0 < n / 10
    · rw [if_pos q, e, decL_big (by omega)]; simp
    · rw [if_neg q, e, decL_small (by omega), Nat.mod_eq_of_lt (by omega)]; simp
  refine ⟨fun q => by rw [key, if_pos q], fun q => by rw [key, if_neg (by omega)], ?_⟩
  have hl := decL_len 18 K (by omega)
  rw [key] at hl
  split at hl
  · rw [List.length_append] at hl; omega
  · omega
set_option maxRecDepth 100000 in
theorem laws_markText (w : World) (k : Int) (hk : k ≤ 4611686018427387904) : Calls Try.prog 82 #[.int .i64 k] w fun e w' => e = .returned (.string (bs (markT k))) ∧ Below w.heap.size w w' := by
  by_cases h0 : k ≤ 0
  · have e : bs (markT k) = (⟨#[109, 48]⟩ : ByteArray) := by
      have : k.toNat = 0 := by omega
      unfold markT; rw [this, decL_small (by omega)]; rfl
    rw [e]
    go_enter Try.func82, Try.ntmps82
    go_wp2_with fail
    go_ret
    exact ⟨rfl, (by repeat (first | with_reducible exact Below.refl _ _ | with_reducible assumption | with_reducible refine Below.setCell ?_ ?_ _ | with_reducible refine Below.alloc ?_ ?_ _ | with_reducible refine Below.drew ?_ | (with_reducible apply below_chain; with_reducible assumption) | exact Nat.le_refl _ | omega | (simp <;> omega)))⟩
  · obtain ⟨K, rfl⟩ : ∃ K : Nat, k = K := ⟨k.toNat, by omega⟩
    go_enter Try.func82, Try.ntmps82
    go_wp2_with fail
    go_loopw [0, 3] (fun kv ov wr => ∃ (n : Nat) (l : List UInt8), n ≤ K ∧ kv = .int .i64 n ∧ ov = .string (bs l) ∧ mInv K n l ∧ Below w.heap.size w wr) (fun kv _ _ => (intOf kv).toNat)
    case atStart => exact ⟨K, [], by omega, rfl, rfl, ⟨fun _ => by simp, fun q => by omega, by simp⟩, Below.refl _ _⟩
    case round =>
      obtain ⟨n, l, hn, rfl, rfl, hinv, hbel⟩ := hrel
      have HI := Lib.hid hinv
      have hl := hinv.2.2
      clear hinv
      by_cases hp : 0 < n
      · have hp' : ((n : Nat) : Int) > 0 := by omega
        have hd : n % 10 < 10 := Nat.mod_lt _ (by omega)
        have e1 : Int.tmod (n : Int) 10 = ((n % 10 : Nat) : Int) := by rw [Int.tmod_eq_emod_of_nonneg (by omega)]; rfl
        have e2 : Int.tdiv (n : Int) 10 = ((n / 10 : Nat) : Int) := by rw [Int.tdiv_eq_ediv_of_nonneg (by omega)]; rfl
        have hcv := run_str_one (48 + ((n % 10 : Nat) : Int)) _ (dgtV hd)
        have e3 : IntKind.i64.wrap (48 + ((n % 10 : Nat) : Int)) = 48 + ((n % 10 : Nat) : Int) := IntWalk.i64_in _ (by omega)
        have e4 : IntKind.u8.wrap (48 + ((n % 10 : Nat) : Int)) = 48 + ((n % 10 : Nat) : Int) := IntWalk.u8_in _ (by omega)
        have z1 : (bs l).size ≤ 20 := by rw [bs_size]; exact hl
        have z2 : (bs [dgt (n % 10)]).size ≤ 1 := by rw [bs_size]; simp
        have HS := Lib.hid (mInv_step HI.out hp (by omega))
        go_wp2_with fail
        go_roundw
        case rel => exact ⟨n / 10, dgt (n % 10) :: l, by omega, congrArg (Value.int .i64) (by omega), by rw [str_app]; rfl, HS.out, (by first | exact hbel.alloc hbel.size _ | exact hbel)⟩
        case measure => simp [intOf]; omega
      · have hn0 : n = 0 := by omega
        have hp' : ¬ ((n : Nat) : Int) > 0 := by omega
        have z1 : (bs l).size ≤ 20 := by rw [bs_size]; exact hl
        have HE := Lib.hid (markT_pos l (HI.out.2.1 hn0))
        clear hn0
        go_wp2_with fail
        go_ret
        exact ⟨by rw [← HE.out]; rfl, (by repeat (first | with_reducible exact Below.refl _ _ | with_reducible assumption | with_reducible refine Below.setCell ?_ ?_ _ | with_reducible refine Below.alloc ?_ ?_ _ | with_reducible refine Below.drew ?_ | (with_reducible apply below_chain; with_reducible assumption) | exact Nat.le_refl _ | omega | (simp <;> omega)))⟩
def mkB (k : Int) : ByteArray := bs (markT k)
theorem mkB_len {k : Int} (h : k ≤ 4611686018427387904) : (mkB k).size ≤ 20 := by unfold mkB; rw [bs_size]; exact markT_len h
theorem c_markText (k : Int) (hk : k ≤ 4611686018427387904) : FCon Try.prog 82 [.s (.int .i64 k)] (fun r _ => r = .s (.string (mkB k))) := by
  refine FCon.ofBelow (Rv := fun v => v = .string (mkB k)) Try.func82 rfl rfl ?_ rfl ?_
  · rintro _ rfl; exact ⟨rfl, rfl⟩
  · intro w S up vs hl hv
    obtain ⟨v, rfl, h⟩ := one_arg (P := fun _ d u => RB S up w d u) hl hv
    have := Rep.s_inv (show Rep S up w none (.s (.int .i64 k)) v from h)
    subst this
    exact (laws_markText w k hk).mono fun e w' h => ⟨_, h.1, rfl, h.2⟩
end Go.Proofs.Ytngobmjdbjlkcaa
