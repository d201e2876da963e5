import Derived.Test.YtngobmjdbjlkcaaUnq
import Derived.Test.YtngobmjdbjlkcaaQuoWalks
import Derived.Deep.RegionLaw
/- Unquote of both texts. -/
namespace Go.Proofs.Ytngobmjdbjlkcaa
set_option linter.unusedVariables false
open Go.RowKit

/-- the number of a hexadecimal digit, as the first text finds it. -/
def halfI (n : Int) : Int := if 48 ≤ n ∧ n ≤ 57 then n - 48 else if 97 ≤ n ∧ n ≤ 102 then n - 87 else 0
theorem halfI_bd (n : Int) : 0 ≤ halfI n ∧ halfI n ≤ 15 := by unfold halfI; split; omega; split <;> omega
theorem halfI_hex {n : Int} (h0 : 0 ≤ n) (h1 : n < 16) : halfI (hexI n) = n := by unfold halfI hexI; split <;> split <;> (try split) <;> omega
theorem hexI_eq {d n : Int} (h0 : 0 ≤ d) (h1 : d < 16) (h : hexI d = n) : d = halfI n := by rw [← h, halfI_hex h0 h1]
theorem halfI_none {n : Int} (h : ∀ d : Int, 0 ≤ d → d < 16 → hexI d ≠ n) : halfI n = 0 := by
  unfold halfI
  split
  · rename_i q; exact absurd (show hexI (n - 48) = n by unfold hexI; rw [if_pos (by omega)]; omega) (h _ (by omega) (by omega))
  · split
    · rename_i q; exact absurd (show hexI (n - 87) = n by unfold hexI; rw [if_neg (by omega)]; omega) (h _ (by omega) (by omega))
    · rfl
theorem hexB_nat {n : Nat} (h : n < 16) : ((hexB n).toNat : Int) = hexI n := by
  have := hexI_bd (n := (n : Int)) (by omega) (by omega)
  unfold hexB
  rw [UInt8.toNat_ofNat']
  omega

theorem spec_l01Half (w : World) (n : Int) : Calls Try.prog 118 #[.int .u8 n] w fun e w' => e = .returned (.int .i64 (halfI n)) ∧ w = w' := by
  go_enter Try.func118, Try.ntmps118
  go_wp2
  go_loop [3] (fun i => ∃ k : Nat, k ≤ 16 ∧ i = .int .i64 k ∧ (∀ d : Int, 0 ≤ d → d < k → hexI d ≠ n)) (fun i => 16 - (intOf i).toNat)
  case atStart => exact ⟨0, Nat.zero_le _, rfl, by omega⟩
  case round =>
    obtain ⟨k, hk, rfl, hall⟩ := hrel
    have HA := Lib.hid hall
    clear hall
    by_cases hlt : k < 16
    · cases he : (hexI (k : Int) == n)
      · have HF := Lib.hid (show hexI (k : Int) ≠ n by simpa using he)
        go_wp2_with (first | (go_at_call 145; refine (spec_l01Hex _ _ (by omega) (by omega)).mono ?_; rintro e w' ⟨rfl, rfl⟩))
        go_round
        case rel =>
          refine ⟨k + 1, by omega, by go_num, fun d h0 h1 => ?_⟩
          by_cases e : d = k
          · subst e; exact HF.out
          · exact HA.out d h0 (by omega)
        case measure => simp [intOf]; omega
      · have HF := Lib.hid (hexI_eq (d := (k : Int)) (n := n) (by omega) (by omega) (by simpa using he))
        go_wp2_with (first | (go_at_call 145; refine (spec_l01Hex _ _ (by omega) (by omega)).mono ?_; rintro e w' ⟨rfl, rfl⟩))
        go_ret
        exact ⟨ret_i HF.out, rfl⟩
    · have HF := Lib.hid (halfI_none (n := n) (fun d h0 h1 => HA.out d h0 (by omega)))
      go_wp2
      go_ret
      exact ⟨ret_i HF.out.symm, rfl⟩
def hvI (n : Int) : Int := if digI n then (n - 48) % 256 else ((n - 97) % 256 + 10) % 256
theorem hvI_bd (n : Int) : 0 ≤ hvI n ∧ hvI n ≤ 255 := by unfold hvI; split <;> omega
theorem hvI_hex {n : Int} (h0 : 0 ≤ n) (h1 : n < 16) : hvI (hexI n) = n := by
  unfold hvI hexI digI
  by_cases h : n < 10
  · rw [if_pos h, if_pos (by simp; omega)]; omega
  · rw [if_neg h, if_neg (by simp; omega)]; omega
theorem impl_hexValue (w : World) (n : Int) (h0 : 0 ≤ n) (h1 : n < 256) : Calls Try.prog 146 #[.int .u8 n] w fun e w' => e = .returned (.int .u8 (hvI n)) ∧ w = w' := by
  cases hd : digI n
  · go_enter Try.func146, Try.ntmps146
    go_wp2_with (first | (go_at_call 120; refine (impl_isDigit _ _).mono ?_; rintro e w' ⟨rfl, rfl⟩))
    go_ret
    exact ⟨ret_n (by rw [hvI, hd]; rfl), rfl⟩
  · go_enter Try.func146, Try.ntmps146
    go_wp2_with (first | (go_at_call 120; refine (impl_isDigit _ _).mono ?_; rintro e w' ⟨rfl, rfl⟩))
    go_ret
    exact ⟨ret_n (by rw [hvI, hd]; rfl), rfl⟩

theorem at_some {s : ByteArray} {k : Nat} (h : k < s.size) : s.data.toList[k]? = some s[k] := List.getElem?_eq_getElem h
/-- what both texts return. -/
noncomputable def unqV (s : ByteArray) : Value := .tuple #[.string (bs ((unqO s.data.toList).getD [])), .bool (unqO s.data.toList).isSome]
theorem unqV_some {s : ByteArray} {out : List UInt8} (h : unqO s.data.toList = some out) : unqV s = .tuple #[.string (bs out), .bool true] := by unfold unqV; rw [h]; rfl
theorem unqV_none {s : ByteArray} (h : unqO s.data.toList = none) : unqV s = .tuple #[.string (bs []), .bool false] := by unfold unqV; rw [h]; rfl
theorem quo_eq {s : ByteArray} {out : List UInt8} : bs (quoL out) = s ↔ quoL out = s.data.toList := by
  constructor
  · intro h; rw [← h]; rfl
  · intro h; rw [h]; exact bs_of s
theorem hexS {x c d : UInt8} (h1 : c = hexB (x.toNat / 16)) (h2 : d = hexB (x.toNat % 16)) : (x.toNat : Int) = 16 * halfI c.toNat + halfI d.toNat := by
  have hx := x.toNat_lt
  rw [h1, h2, hexB_nat (by omega), hexB_nat (by omega), halfI_hex (by omega) (by omega), halfI_hex (by omega) (by omega)]
  omega
theorem hexM {x c d : UInt8} (h1 : c = hexB (x.toNat / 16)) (h2 : d = hexB (x.toNat % 16)) : (x.toNat : Int) = (hvI c.toNat * 16 + hvI d.toNat) % 256 := by
  have hx := x.toNat_lt
  rw [h1, h2, hexB_nat (by omega), hexB_nat (by omega), hvI_hex (by omega) (by omega), hvI_hex (by omega) (by omega)]
  omega
theorem byte_eq {x : UInt8} {z : Int} (h : (x.toNat : Int) = z) : x = UInt8.ofNat z.toNat := by
  apply UInt8.toNat.inj
  have := x.toNat_lt
  rw [UInt8.toNat_ofNat']; omega
theorem UInv.hexS {s : ByteArray} {k : Nat} {out : List UInt8} (h : UInv s.data.toList k out) (hk : k + 3 < s.size) (h0 : s[k] = 92) (h1 : s[k + 1] = 120) :
    UInv s.data.toList (k + 4) (out ++ [UInt8.ofNat (16 * halfI s[k + 2].toNat + halfI s[k + 3].toNat).toNat]) :=
  h.hex (by rw [blen]; omega) (by rw [at_some (by omega), h0]) (by rw [at_some (by omega), h1]) (at_some (by omega)) (at_some (by omega)) (fun x e1 e2 => byte_eq (Go.Proofs.Ytngobmjdbjlkcaa.hexS e1 e2))

theorem calls_flip {f : FuncId} {args : Array Value} {w : World} {v : Value} (h : Calls Try.prog f args w fun e w' => e = .returned v ∧ w = w') : Calls Try.prog f args w fun e w' => e = .returned v ∧ w' = w :=
  h.mono fun _ _ ⟨a, b⟩ => ⟨a, b.symm⟩
theorem step_plain {P : Program} {ops : Array Oper} {o : Oper} {a : Act} {w : World} {K : Act → World → Prop} {Q : Exit → Act → World → Prop} {E : Prop} (hg : o.guard = none) (h : Oper.wp P o a w K Q) :
    if Region.wanted o (yielded ops a.tmps) = true then Oper.wp P o a w K Q else E := by
  rw [if_pos (by simp [Region.wanted, hg])]; exact h
theorem by_ne {x y : UInt8} (h : x ≠ y) : ((x.toNat : Int) == (y.toNat : Int)) = false := by
  rw [beq_eq_false_iff_ne]
  intro e
  exact h (UInt8.toNat.inj (by omega))
theorem by_ne' {x y : UInt8} (h : x ≠ y) : ((x.toNat : Int) != (y.toNat : Int)) = true := by
  rw [bne_iff_ne]
  intro e
  exact h (UInt8.toNat.inj (by omega))
set_option maxHeartbeats 2000000 in
set_option maxRecDepth 100000 in
theorem spec_Unquote (w : World) (s : ByteArray) (hs : s.size ≤ 9000000000) : Calls Try.prog 75 #[.string s] w fun e w' => e = .returned (unqV s) ∧ Below w.heap.size w w' := by
  go_enter Try.func75, Try.ntmps75
  go_wp2
  go_loopw [4, 5] (fun v i wr => ∃ (k : Nat) (out : List UInt8), i = .int .i64 k ∧ out.length ≤ k ∧ k ≤ s.size + 1 ∧ UInv s.data.toList k out ∧ OwnB wr w.heap.size v out ∧ Below w.heap.size w wr) (fun _ i _ => s.size + 2 - (intOf i).toNat)
  case atStart => exact ⟨1, [], rfl, by simp, by omega, UInv.start _, OwnB.made w _ (Nat.le_refl _) [] (by decide), (Below.refl _ _).alloc (Nat.le_refl _) _⟩
  case round =>
    obtain ⟨k, out, rfl, hl, hks, hinv, hown, hbel⟩ := hrel
    obtain ⟨a, c, rfl⟩ := hown.len
    have HO := Lib.hid hown
    have HI := Lib.hid hinv
    clear hown hinv
    by_cases hlt : k + 1 < s.size
    · have hlt0 : k < s.size := by omega
      have hwb : (k : Int) < (s.size : Int) - 1 := by omega
      by_cases c0 : s[k] = 92
      · have t0 : ((s[k].toNat : Int) != 92) = false := by rw [c0]; rfl
        by_cases c1 : s[k + 1] = 110
        · have HS := Lib.hid (HI.out.newline (by rw [blen]; omega) ((at_some hlt0).trans (congrArg some c0)) ((at_some hlt).trans (congrArg some c1)))
          have t1 : ((s[k + 1].toNat : Int) == 110) = true := by rw [c1]; rfl
          clear c0 c1
          go_wp2_with (first | (at_builtin; refine app_u8_lit wr rfl _ _ rfl w.heap.size (.slice a out.length c) _ rfl HO.out _ rfl [10] ?_ ?_ ?_ ?_))
          · rfl
          · simp; omega
          · exact hbel.size
          · intro v' w' hown' hb'
            go_wp2
            go_roundw
            case rel => exact ⟨k + 2, _, by go_num, by simp; omega, by omega, HS.out, hown', hbel.trans hb'⟩
            case measure => simp [intOf]; omega
        · have t1 : ((s[k + 1].toNat : Int) == 110) = false := by_ne c1
          by_cases c2 : s[k + 1] = 120
          · have t2 : ((s[k + 1].toNat : Int) == 120) = true := by rw [c2]; rfl
            by_cases c3 : k + 3 < s.size
            · have HS := Lib.hid (HI.out.hexS c3 c0 c2)
              have hh1 := halfI_bd s[k + 2].toNat
              have hh2 := halfI_bd s[k + 3].toNat
              have HV := Lib.hid (byteV_of (z := 16 * halfI s[k + 2].toNat + halfI s[k + 3].toNat) (by omega) (by omega))
              clear c0 c1 c2
              go_wp2_with fail
              have i1 : (0 : Int) ≤ (k : Int) + 1 + 1 := by omega
              have i2 : (k : Int) + 1 + 1 < (s.size : Int) := by omega
              have i3 : (0 : Int) ≤ (k : Int) + 1 + 2 := by omega
              have i4 : (k : Int) + 1 + 2 < (s.size : Int) := by omega
              have n1 : ((k : Int) + 1 + 1).toNat = k + 2 := by omega
              have n2 : ((k : Int) + 1 + 2).toNat = k + 3 := by omega
              have HL := Lib.hid (show out.length + 1 ≤ 140737488355328 by omega)
              have e1 : IntKind.i64.wrap ((k : Int) + 1 + 1) = (k : Int) + 1 + 1 := IntWalk.i64_in _ (by omega)
              have e2 : IntKind.i64.wrap ((k : Int) + 1 + 2) = (k : Int) + 1 + 2 := IntWalk.i64_in _ (by omega)
              have e3 : IntKind.i64.wrap (16 * halfI s[k + 2].toNat) = 16 * halfI s[k + 2].toNat := IntWalk.i64_in _ (by omega)
              have e4 : IntKind.i64.wrap (16 * halfI s[k + 2].toNat + halfI s[k + 3].toNat) = 16 * halfI s[k + 2].toNat + halfI s[k + 3].toNat := IntWalk.i64_in _ (by omega)
              have e5 : IntKind.u8.wrap (16 * halfI s[k + 2].toNat + halfI s[k + 3].toNat) = 16 * halfI s[k + 2].toNat + halfI s[k + 3].toNat := IntWalk.u8_in _ (by omega)
              go_region_law (first | (refine step_plain rfl ?_; go_simp; (go_at_call 118; refine (spec_l01Half _ _).mono ?_; rintro e w' ⟨rfl, rfl⟩); dsimp only) | (refine step_app_u8_lit wr.drew rfl _ _ rfl w.heap.size (.slice a out.length c) _ rfl HO.out.drew _ rfl [UInt8.ofNat (16 * halfI s[k + 2].toNat + halfI s[k + 3].toNat).toNat] (congrArg (fun x => [x]) HV.out) HL.out hbel.size ?_; intro v' w' hown' hb'))
              all_goals
                go_wp2
                go_roundw
                case rel => exact ⟨k + 4, _, by go_num, by simp; omega, by omega, HS.out, hown', hbel.trans (((Below.refl _ _).drew).trans hb')⟩
                case measure => simp [intOf]; omega
            · have HS := Lib.hid (HI.out.escaped (by rw [blen]; omega) ((at_some hlt0).trans (congrArg some c0)) (at_some hlt) c1 (.inr (by rw [blen]; omega)))
              clear c0 c1 c2
              go_wp2_with (first | (at_builtin; refine app_u8_lit wr rfl _ _ rfl w.heap.size (.slice a out.length c) _ rfl HO.out _ rfl [s[k + 1]] ?_ ?_ ?_ ?_))
              · rfl
              · simp; omega
              · exact hbel.size
              · intro v' w' hown' hb'
                go_wp2
                go_roundw
                case rel => exact ⟨k + 2, _, by go_num, by simp; omega, by omega, HS.out, hown', hbel.trans hb'⟩
                case measure => simp [intOf]; omega
          · have t2 : ((s[k + 1].toNat : Int) == 120) = false := by_ne c2
            have HS := Lib.hid (HI.out.escaped (by rw [blen]; omega) ((at_some hlt0).trans (congrArg some c0)) (at_some hlt) c1 (.inl c2))
            clear c0 c1 c2
            go_wp2_with (first | (at_builtin; refine app_u8_lit wr rfl _ _ rfl w.heap.size (.slice a out.length c) _ rfl HO.out _ rfl [s[k + 1]] ?_ ?_ ?_ ?_))
            · rfl
            · simp; omega
            · exact hbel.size
            · intro v' w' hown' hb'
              go_wp2
              go_roundw
              case rel => exact ⟨k + 2, _, by go_num, by simp; omega, by omega, HS.out, hown', hbel.trans hb'⟩
              case measure => simp [intOf]; omega
      · have HS := Lib.hid (HI.out.plain (by rw [blen]; omega) (at_some hlt0) c0)
        have t0 : ((s[k].toNat : Int) != 92) = true := by_ne' c0
        clear c0
        go_wp2_with (first | (at_builtin; refine app_u8_lit wr rfl _ _ rfl w.heap.size (.slice a out.length c) _ rfl HO.out _ rfl [s[k]] ?_ ?_ ?_ ?_))
        · rfl
        · simp; omega
        · exact hbel.size
        · intro v' w' hown' hb'
          go_wp2
          go_roundw
          case rel => exact ⟨k + 1, _, by go_num, by simp; omega, by omega, HS.out, hown', hbel.trans hb'⟩
          case measure => simp [intOf]; omega
    · have HD := Lib.hid (HI.out.done (by rw [blen]; omega))
      have hwb : ¬ (k : Int) < (s.size : Int) - 1 := by omega
      have hz : (bs out).size ≤ 10000000000 := by rw [bs_size]; omega
      have hcv := run_bytes_str HO.out
      have hcv2 := fun (w2 : World) (hb2 : Below wr.heap.size wr w2) => run_bytes_str (HO.out.kept hb2 (Nat.le_refl _))
      by_cases hq : quoL out = s.data.toList
      · have HR := Lib.hid (unqV_some (unqO_some HD.out hq))
        have hne : ((bs (quoL (bs out).data.toList)).toList == s.toList) = true := str_beq_true (quo_eq.2 hq)
        clear hq
        go_wp2_with (first | (go_at_call 119; refine (spec_Quote _ _ hz).mono ?_; rintro e w1 ⟨rfl, hb1⟩))
        go_ret2
        exact ⟨congrArg Ending.returned HR.out.symm, hbel.trans (hb1.mono hbel.size)⟩
      · have HR := Lib.hid (unqV_none (unqO_none HD.out hq))
        have hne : ((bs (quoL (bs out).data.toList)).toList == s.toList) = false := str_beq_false (fun e => hq (quo_eq.1 e))
        clear hq
        go_wp2_with (first | (go_at_call 119; refine (spec_Quote _ _ hz).mono ?_; rintro e w1 ⟨rfl, hb1⟩))
        go_ret2
        exact ⟨congrArg Ending.returned HR.out.symm, hbel.trans (hb1.mono hbel.size)⟩

theorem UInv.hexM {s : ByteArray} {k : Nat} {out : List UInt8} (h : UInv s.data.toList k out) (hk : k + 3 < s.size) (h0 : s[k] = 92) (h1 : s[k + 1] = 120) :
    UInv s.data.toList (k + 4) (out ++ [UInt8.ofNat ((hvI s[k + 2].toNat * 16 + hvI s[k + 3].toNat) % 256).toNat]) :=
  h.hex (by rw [blen]; omega) (by rw [at_some (by omega), h0]) (by rw [at_some (by omega), h1]) (at_some (by omega)) (at_some (by omega)) (fun x e1 e2 => byte_eq (Go.Proofs.Ytngobmjdbjlkcaa.hexM e1 e2))
theorem body_of (s : ByteArray) (h : 2 ≤ s.size) : ∃ b : ByteArray, (∀ wx, (Instr.slice 9 (.string s) (some (.int .i64 1)) (some (.int .i64 ((s.size : Int) - 1))) none).run Try.prog wx = .ok (.string b) wx) ∧
    b.size + 2 = s.size ∧ ∀ k (h1 : k < b.size) (h2 : k + 1 < s.size), b[k] = s[k + 1] := by
  refine ⟨s.extract 1 (s.size - 1), fun wx => ?_, ?_, fun k h1 h2 => ?_⟩
  · rw [run_slice_string wx 9 s .i64 .i64 1 _ Try.underlying9 (by omega) (by omega) (by omega)]
    congr 2
    congr 1
    omega
  · rw [ByteArray.size_extract]; omega
  · rw [ByteArray.getElem_extract]
    congr 1; omega
set_option maxRecDepth 100000 in
set_option maxHeartbeats 4000000 in
set_option maxRecDepth 100000 in
theorem impl_Unquote (w : World) (s : ByteArray) (hs : s.size ≤ 9000000000) : Calls Try.prog 124 #[.string s] w fun e w' => e = .returned (unqV s) ∧ Below w.heap.size w w' := by
  by_cases hsz : s.size < 2
  · have HR := Lib.hid (unqV_none (unqO_short (by rw [blen]; exact hsz)))
    go_enter Try.func124, Try.ntmps124
    go_wp2
    go_ret2
    exact ⟨congrArg Ending.returned HR.out.symm, Below.refl _ _⟩
  · obtain ⟨b, hsl, hbs, hba⟩ := body_of s (by omega)
    have HB := Lib.hid hba
    have HBS := Lib.hid hbs
    have hb1 : b.size + 2 ≤ s.size := by omega
    have hb2 : s.size ≤ b.size + 2 := by omega
    clear hba hbs
    go_enter Try.func124, Try.ntmps124
    go_wp2
    clear hsl
    go_loopw [5, 6] (fun v i wr => ∃ (k : Nat) (out : List UInt8), i = .int .i64 k ∧ out.length ≤ k ∧ k ≤ b.size + 1 ∧ UInv s.data.toList (k + 1) out ∧ OwnB wr w.heap.size v out ∧ Below w.heap.size w wr) (fun _ i _ => b.size + 2 - (intOf i).toNat)
    case atStart => exact ⟨0, [], rfl, by simp, by omega, UInv.start _, OwnB.made w _ (Nat.le_refl _) [] (by decide), (Below.refl _ _).alloc (Nat.le_refl _) _⟩
    case round =>
      obtain ⟨k, out, rfl, hl, hks, hinv, hown, hbel⟩ := hrel
      obtain ⟨a, c, rfl⟩ := hown.len
      have HO := Lib.hid hown
      have HI := Lib.hid hinv
      clear hown hinv
      by_cases hlt : k < b.size
      · have hk1 : k + 1 < s.size := by omega
        have E1 := Lib.hid (HB.out k hlt hk1)
        by_cases c0 : b[k] = 92
        · have t0 : ((b[k].toNat : Int) != 92) = false := by rw [c0]; rfl
          by_cases hlt2 : k + 1 < b.size
          · have E2 := Lib.hid (HB.out (k + 1) hlt2 (by omega))
            by_cases c1 : b[k + 1] = 110
            · have HS := Lib.hid (HI.out.newline (by rw [blen]; omega) ((at_some hk1).trans (congrArg some (E1.out.symm.trans c0))) ((at_some (by omega)).trans (congrArg some (E2.out.symm.trans c1))))
              have t1 : ((b[k + 1].toNat : Int) == 110) = true := by rw [c1]; rfl
              clear c0 c1
              go_wp2_with (first | (at_builtin; refine app_u8_lit wr rfl _ _ rfl w.heap.size (.slice a out.length c) _ rfl HO.out _ rfl [10] ?_ ?_ ?_ ?_))
              · rfl
              · simp; omega
              · exact hbel.size
              · intro v' w' hown' hb'
                go_wp2
                go_roundw
                case rel => exact ⟨k + 2, _, by go_num, by simp; omega, by omega, HS.out, hown', hbel.trans hb'⟩
                case measure => simp [intOf]; omega
            · have t1 : ((b[k + 1].toNat : Int) == 110) = false := by_ne c1
              by_cases c2 : b[k + 1] = 120
              · have t2 : ((b[k + 1].toNat : Int) == 120) = true := by rw [c2]; rfl
                by_cases c3 : k + 3 < b.size
                · have HS := Lib.hid (HI.out.hexM (by omega) (E1.out.symm.trans c0) (E2.out.symm.trans c2))
                  have E3 := Lib.hid (HB.out (k + 2) (by omega) (by omega))
                  have E4 := Lib.hid (HB.out (k + 3) (by omega) (by omega))
                  have hh1 := hvI_bd b[k + 2].toNat
                  have hh2 := hvI_bd b[k + 3].toNat
                  have u1 : b[k + 2].toNat < 256 := b[k + 2].toNat_lt
                  have u2 : b[k + 3].toNat < 256 := b[k + 3].toNat_lt
                  have HV : Hid (Value.int .u8 ((hvI b[k + 2].toNat * 16 + hvI b[k + 3].toNat) % 256) = byteV (UInt8.ofNat ((hvI s[k + 1 + 2].toNat * 16 + hvI s[k + 1 + 3].toNat) % 256).toNat)) := by
                    have := byteV_of (z := (hvI b[k + 2].toNat * 16 + hvI b[k + 3].toNat) % 256) (by omega) (by omega)
                    unfold Hid
                    rw [this, E3.out, E4.out]
                  clear c0 c1 c2
                  go_wp2_with fail
                  have HK4 := Lib.hid (show k + 4 ≤ b.size + 1 by omega)
                  have HM4 := Lib.hid (show b.size + 2 - (k + 4) < b.size + 2 - k by omega)
                  have i1 : (0 : Int) ≤ (k : Int) + 1 + 1 := by omega
                  have i2 : (k : Int) + 1 + 1 < (b.size : Int) := by omega
                  have i3 : (0 : Int) ≤ (k : Int) + 1 + 2 := by omega
                  have i4 : (k : Int) + 1 + 2 < (b.size : Int) := by omega
                  have n1 : ((k : Int) + 1 + 1).toNat = k + 2 := by omega
                  have n2 : ((k : Int) + 1 + 2).toNat = k + 3 := by omega
                  have HL := Lib.hid (show out.length + 1 ≤ 140737488355328 by omega)
                  have e1 : IntKind.i64.wrap ((k : Int) + 1 + 1) = (k : Int) + 1 + 1 := IntWalk.i64_in _ (by omega)
                  have e2 : IntKind.i64.wrap ((k : Int) + 1 + 2) = (k : Int) + 1 + 2 := IntWalk.i64_in _ (by omega)
                  have e3 : IntKind.u8.wrap (hvI b[k + 2].toNat * 16) = hvI b[k + 2].toNat * 16 % 256 := IntKind.wrap_u8 _
                  have e4 : IntKind.u8.wrap (hvI b[k + 2].toNat * 16 % 256 + hvI b[k + 3].toNat) = (hvI b[k + 2].toNat * 16 + hvI b[k + 3].toNat) % 256 := by rw [IntKind.wrap_u8]; omega
                  go_region_law (first | (refine step_plain rfl ?_; go_simp; (go_at_call 146; refine (impl_hexValue _ _ (by omega) (by omega)).mono ?_; rintro e w' ⟨rfl, rfl⟩); dsimp only) | (refine step_app_u8_lit wr.drew rfl _ _ rfl w.heap.size (.slice a out.length c) _ rfl HO.out.drew _ rfl [UInt8.ofNat ((hvI s[k + 1 + 2].toNat * 16 + hvI s[k + 1 + 3].toNat) % 256).toNat] (congrArg (fun x => [x]) HV.out) HL.out hbel.size ?_; intro v' w' hown' hb'))
                  all_goals
                    go_wp2
                    go_roundw
                    case rel => exact ⟨k + 4, _, by go_num, by simp; omega, HK4.out, HS.out, hown', hbel.trans (((Below.refl _ _).drew).trans hb')⟩
                    case measure => have := HM4.out; simp [intOf]; omega
                · have HS := Lib.hid (HI.out.escaped (by rw [blen]; omega) ((at_some hk1).trans (congrArg some (E1.out.symm.trans c0))) ((at_some (by omega)).trans (congrArg some E2.out.symm)) c1 (.inr (by rw [blen]; omega)))
                  clear c0 c1 c2
                  go_wp2_with (first | (at_builtin; refine app_u8_lit wr rfl _ _ rfl w.heap.size (.slice a out.length c) _ rfl HO.out _ rfl [b[k + 1]] ?_ ?_ ?_ ?_))
                  · rfl
                  · simp; omega
                  · exact hbel.size
                  · intro v' w' hown' hb'
                    go_wp2
                    go_roundw
                    case rel => exact ⟨k + 2, _, by go_num, by simp; omega, by omega, HS.out, hown', hbel.trans hb'⟩
                    case measure => simp [intOf]; omega
              · have t2 : ((b[k + 1].toNat : Int) == 120) = false := by_ne c2
                have HS := Lib.hid (HI.out.escaped (by rw [blen]; omega) ((at_some hk1).trans (congrArg some (E1.out.symm.trans c0))) ((at_some (by omega)).trans (congrArg some E2.out.symm)) c1 (.inl c2))
                clear c0 c1 c2
                go_wp2_with (first | (at_builtin; refine app_u8_lit wr rfl _ _ rfl w.heap.size (.slice a out.length c) _ rfl HO.out _ rfl [b[k + 1]] ?_ ?_ ?_ ?_))
                · rfl
                · simp; omega
                · exact hbel.size
                · intro v' w' hown' hb'
                  go_wp2
                  go_roundw
                  case rel => exact ⟨k + 2, _, by go_num, by simp; omega, by omega, HS.out, hown', hbel.trans hb'⟩
                  case measure => simp [intOf]; omega
          · have HS := Lib.hid (HI.out.last (n := k + 1 + 1) (c := b[k]) (by rw [blen]; omega) ((at_some hk1).trans (congrArg some (E1.out.symm.trans c0))) (by rw [blen]; omega))
            clear c0
            go_wp2_with (first | (at_builtin; refine app_u8_lit wr rfl _ _ rfl w.heap.size (.slice a out.length c) _ rfl HO.out _ rfl [b[k]] ?_ ?_ ?_ ?_))
            · rfl
            · simp; omega
            · exact hbel.size
            · intro v' w' hown' hb'
              go_wp2
              go_roundw
              case rel => exact ⟨k + 1, _, by go_num, by simp; omega, by omega, HS.out, hown', hbel.trans hb'⟩
              case measure => simp [intOf]; omega
        · have HS := Lib.hid (HI.out.plain (by rw [blen]; omega) ((at_some hk1).trans (congrArg some E1.out.symm)) c0)
          have t0 : ((b[k].toNat : Int) != 92) = true := by_ne' c0
          clear c0
          go_wp2_with (first | (at_builtin; refine app_u8_lit wr rfl _ _ rfl w.heap.size (.slice a out.length c) _ rfl HO.out _ rfl [b[k]] ?_ ?_ ?_ ?_))
          · rfl
          · simp; omega
          · exact hbel.size
          · intro v' w' hown' hb'
            go_wp2
            go_roundw
            case rel => exact ⟨k + 1, _, by go_num, by simp; omega, by omega, HS.out, hown', hbel.trans hb'⟩
            case measure => simp [intOf]; omega
      · have HD := Lib.hid (HI.out.done (by rw [blen]; omega))
        have hz : (bs out).size ≤ 10000000000 := by rw [bs_size]; omega
        have hcv := run_bytes_str HO.out
        have hcv2 := fun (w2 : World) (hb2 : Below wr.heap.size wr w2) => run_bytes_str (HO.out.kept hb2 (Nat.le_refl _))
        by_cases hq : quoL out = s.data.toList
        · have HR := Lib.hid (unqV_some (unqO_some HD.out hq))
          have hne : ((bs (quoL (bs out).data.toList)).toList == s.toList) = true := str_beq_true (quo_eq.2 hq)
          clear hq
          go_wp2_with (first | (go_at_call 147; refine (impl_Quote _ _ hz).mono ?_; rintro e w1 ⟨rfl, hb1⟩))
          go_ret2
          exact ⟨congrArg Ending.returned HR.out.symm, hbel.trans (hb1.mono hbel.size)⟩
        · have HR := Lib.hid (unqV_none (unqO_none HD.out hq))
          have hne : ((bs (quoL (bs out).data.toList)).toList == s.toList) = false := str_beq_false (fun e => hq (quo_eq.1 e))
          clear hq
          go_wp2_with (first | (go_at_call 147; refine (impl_Quote _ _ hz).mono ?_; rintro e w1 ⟨rfl, hb1⟩))
          go_ret2
          exact ⟨congrArg Ending.returned HR.out.symm, hbel.trans (hb1.mono hbel.size)⟩
end Go.Proofs.Ytngobmjdbjlkcaa
