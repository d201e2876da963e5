/- Draws of texts: l01Bytes, DrawNumText, DrawQuote. -/
import Derived.Test.YtallaohjlncajaaDraw
import Derived.Test.YtallaohjlncajaaBytes
import Derived.Test.YtallaohjlncajaaDecWalks
import Derived.Deep.RegionLaw
namespace Go.Proofs.Ytallaohjlncajaa
set_option linter.unusedVariables false
open Go.RowKit Go.ChangeShapes Go.WideShapes
theorem spec_DrawNumText (w : World) (h : Hp) (hs : Sub h w) (sl : Value) (zs : List Int) (hb : BytS h sl zs) :
    Calls Try.prog 58 #[sl] w fun e w' => OnePost w e w' := by
  go_enter Try.func58, Try.ntmps58
  go_wp2_with fail
  refine (spec_l01New _ h hs sl zs hb).mono ?_
  rintro e w1 ⟨p, rfl, hp, hc1, b1⟩
  go_wp2_with fail
  refine (spec_l01Raw _ h p sl zs hc1).mono ?_
  rintro e w2 ⟨x, rfl, x0, x1, hc2, g2⟩
  go_wp2_with fail
  go_ret
  exact ⟨x, rfl, ⟨x0, x1⟩, below_grown b1 g2 hp⟩
theorem sub_below {h : Hp} {B : Nat} {w w' : World} (s : Sub h w) (hB : ∀ b o, h b = some o → b < B) (k : Below B w w') : Sub h w' := fun b o e => by
  rw [k.block b (hB b o e)]; exact s b o e
theorem CurAt.below {w w' : World} {h : Hp} {p B : Nat} {sl : Value} {zs : List Int} (c : CurAt w h p sl zs) (hB : ∀ b o, h b = some o → b < B) (hp : p < B) (k : Below B w w') : CurAt w' h p sl zs := by
  obtain ⟨s, o, ⟨n, hh, hk, e⟩, hb⟩ := c
  exact ⟨sub_below s hB k, o, ⟨n, hh, hk, by rw [k.block p hp]; exact e⟩, hb⟩
theorem OwnB.grown {w w' : World} {B p : Nat} {v : Value} {out : List UInt8} (h : OwnB w B v out) (g : w.grownBy w' (some p)) (hp : p < B) : OwnB w' B v out := by
  obtain ⟨h1, h2⟩ := h
  refine ⟨h1, h2.imp id fun ⟨b, cap, cur, e, hg, hh, r⟩ => ⟨b, cap, cur, e, hg, ?_, r⟩⟩
  have : b < w.heap.size := by
    rcases Nat.lt_or_ge b w.heap.size with hl | hl
    · exact hl
    · rw [Array.getElem?_eq_none hl] at hh; cases hh
  rw [g.block b this (by simp; omega)]; exact hh
theorem grown_below {w a b : World} {r : Option Nat} (g : w.grownBy a r) (k : Below w.heap.size a b) : w.grownBy b r :=
  ⟨k.os.trans g.os, k.tape.trans g.tape, k.output.trans g.output, Nat.le_trans g.size k.size, fun i hi hne => (k.block i hi).trans (g.block i hi hne)⟩
/-- bytes that were drawn. -/
def BytPost (w : World) (h : Hp) (p : Nat) (sl : Value) (zs : List Int) (most : Int) (e : Ending) (w' : World) : Prop :=
  ∃ v out, e = .returned v ∧ OwnB w' w.heap.size v out ∧ (out.length : Int) ≤ most ∧ CurAt w' h p sl zs ∧ w.grownBy w' (some p)
theorem spec_l01Bytes (w : World) (h : Hp) (p : Nat) (sl : Value) (zs : List Int) (hc : CurAt w h p sl zs) (most : Int) (h0 : 0 ≤ most) (h1 : most ≤ 4000) :
    Calls Try.prog 81 #[.pointer (some ⟨p, 0, none⟩), .int .i64 most] w fun e w' => BytPost w h p sl zs most e w' := by
  have hB : ∀ b o, h b = some o → b < w.heap.size := fun b o e => hc.sub.lt e
  have hp := hc.lt
  have hw : IntKind.i64.wrap (most + 1) = most + 1 := IntWalk.i64_in _ (by omega)
  go_enter Try.func81, Try.ntmps81
  go_wp2_with fail
  refine (spec_l01Below _ h p sl zs hc (most + 1) (by omega) (by omega)).mono ?_
  rintro e w1 ⟨n, rfl, n0, n1, hc1, g1⟩
  go_wp2
  go_loopw [6, 7] (fun v i wr => ∃ (k : Nat) (out : List UInt8), (k : Int) ≤ n ∧ i = .int .i64 k ∧ out.length = k ∧ OwnB wr w.heap.size v out ∧ CurAt wr h p sl zs ∧ w.grownBy wr (some p)) (fun _ i _ => n.toNat - (intOf i).toNat)
  case atStart => exact ⟨0, [], by omega, rfl, rfl, OwnB.made w1 _ g1.size [] (by decide), hc1.alloc _, grown_below g1 ((Below.refl _ _).alloc g1.size _)⟩
  case round =>
    obtain ⟨k, out, hk, rfl, hl, hown, hcu, hg⟩ := hrel
    obtain ⟨a, c, rfl⟩ := hown.len
    have HO := Lib.hid hown
    have HC := Lib.hid hcu
    have HL := Lib.hid hl
    have HG := Lib.hid hg
    clear hown hcu hg hl hc1 g1
    by_cases hlt : (k : Int) < n
    · go_wp2_with fail
      refine (spec_l01Byte _ h p sl zs HC.out).mono ?_
      rintro e w2 ⟨z, rfl, z0, z1, hc2, g2⟩
      have hu : IntKind.u8.wrap z = z := IntWalk.u8_in _ (by omega)
      have HO2 := Lib.hid (HO.out.grown g2 hp)
      have HG2 := Lib.hid (grown_trans HG.out g2)
      go_wp2_with (first | (at_builtin; refine app_u8_lit w2 rfl _ _ rfl w.heap.size (.slice a out.length c) out rfl HO2.out _ rfl [UInt8.ofNat z.toNat] ?_ ?_ ?_ ?_))
      · exact congrArg (fun x => [x]) (byteV_of z0 (by omega))
      · have := HL.out; simp; omega
      · exact HG2.out.size
      · intro v' w' hown' hb'
        go_wp2
        go_roundw
        case rel => exact ⟨k + 1, _, by omega, by go_num, by have := HL.out; simp; omega, hown', hc2.below hB hp hb', grown_below HG2.out hb'⟩
        case measure => simp [intOf]; omega
    · go_wp2_with fail
      go_ret
      exact ⟨_, out, rfl, HO.out, by have := HL.out; omega, HC.out, HG.out⟩
/-- a text that was drawn. -/
def TxtPost (w : World) (e : Ending) (w' : World) : Prop := ∃ s : ByteArray, e = .returned (.string s) ∧ s.size ≤ 12 ∧ Below w.heap.size w w'
theorem spec_DrawQuote (w : World) (h : Hp) (hs : Sub h w) (sl : Value) (zs : List Int) (hb : BytS h sl zs) :
    Calls Try.prog 59 #[sl] w fun e w' => TxtPost w e w' := by
  go_enter Try.func59, Try.ntmps59
  go_wp2_with fail
  refine (spec_l01New _ h hs sl zs hb).mono ?_
  rintro e w1 ⟨p, rfl, hp, hc1, b1⟩
  go_wp2_with fail
  refine (spec_l01Bytes _ h p sl zs hc1 12 (by omega) (by omega)).mono ?_
  rintro e w2 ⟨v, out, rfl, hown, hl, hc2, g2⟩
  have hcv := run_bytes_str hown
  go_wp2_with fail
  try (simp only [hcv])
  try (go_wp2_with fail)
  refine (spec_l01Below _ h p sl zs hc2 3 (by omega) (by omega)).mono ?_
  rintro e w3 ⟨x, rfl, x0, x1, hc3, g3⟩
  have b3 := below_grown b1 (grown_trans g2 g3) hp
  by_cases hx : x = 0
  · subst hx
    go_wp2_with fail
    have hc4 : CurAt (w3.alloc (.cells #[.string { data := #[] }, .string { data := #[97, 98, 99] }, .string { data := #[97, 10, 98] }, .string { data := #[34] }, .string { data := #[92] }, .string { data := #[195, 169] }, .string { data := #[0] }] 9 (0, 0))) h p sl zs := hc3.alloc _
    refine (spec_l01Below _ h p sl zs hc4 7 (by omega) (by omega)).mono ?_
    rintro e w5 ⟨t, rfl, t0, t1, hc5, g5⟩
    have hpl := hc3.lt
    have hk5 : w5.heap[w3.heap.size]? = some (.cells #[.string { data := #[] }, .string { data := #[97, 98, 99] }, .string { data := #[97, 10, 98] }, .string { data := #[34] }, .string { data := #[92] }, .string { data := #[195, 169] }, .string { data := #[0] }] 9 (0, 0)) := by
      rw [g5.block w3.heap.size (by show _ < (w3.heap.push _).size; simp) (by simp; omega)]
      show (w3.heap.push _)[w3.heap.size]? = _
      simp
    have b5 : Below w.heap.size w w5 := below_grown (b3.alloc b3.size _) g5 hp
    have k0 : w5.cell? ⟨w3.heap.size, 0, none⟩ = some (.string { data := #[] }) := by simp [World.cell?, hk5]
    have k1 : w5.cell? ⟨w3.heap.size, 1, none⟩ = some (.string { data := #[97, 98, 99] }) := by simp [World.cell?, hk5]
    have k2 : w5.cell? ⟨w3.heap.size, 2, none⟩ = some (.string { data := #[97, 10, 98] }) := by simp [World.cell?, hk5]
    have k3 : w5.cell? ⟨w3.heap.size, 3, none⟩ = some (.string { data := #[34] }) := by simp [World.cell?, hk5]
    have k4 : w5.cell? ⟨w3.heap.size, 4, none⟩ = some (.string { data := #[92] }) := by simp [World.cell?, hk5]
    have k5 : w5.cell? ⟨w3.heap.size, 5, none⟩ = some (.string { data := #[195, 169] }) := by simp [World.cell?, hk5]
    have k6 : w5.cell? ⟨w3.heap.size, 6, none⟩ = some (.string { data := #[0] }) := by simp [World.cell?, hk5]
    clear hk5 hc4 hc5 g5 g3 g2 b3
    have ht : t = 0 ∨ t = 1 ∨ t = 2 ∨ t = 3 ∨ t = 4 ∨ t = 5 ∨ t = 6 := by omega
    rcases ht with rfl | rfl | rfl | rfl | rfl | rfl | rfl
    all_goals
      go_wp2_with fail
      go_ret
      exact ⟨_, rfl, by decide, b5⟩
  · have tx : (x == 0) = false := by simpa using hx
    go_wp2_with fail
    go_ret
    exact ⟨_, rfl, by rw [bs_size]; omega, b3⟩
end Go.Proofs.Ytallaohjlncajaa
