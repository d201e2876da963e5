/- keywords, slices.Index, slices.Contains, NameOk of both texts. -/
import Derived.Test.YtokjkmibnjfkaaaStrWalks
import Derived.Test.YtokjkmibnjfkaaaMem
import Derived.Test.YtokjkmibnjfkaaaKw
namespace Go.Proofs.Ytokjkmibnjfkaaa
open Go.RowKit

theorem slices_Index_string_string_ (w : World) (h : Hp) (hs : Sub h w) (v : Value) (ss : List ByteArray) (x : ByteArray) (hv : Sl h v (ss.map Value.string)) : Calls Try.prog 114 #[v, .string x] w fun e w' => e = .returned (.int .i64 (idxOf x ss)) ∧ w = w' := by
  obtain ⟨a, c, rfl, h1, h2, hr⟩ := hv
  unfold maxLen at h2
  rw [List.length_map] at *
  go_enter Try.func114, Try.ntmps114
  go_wp2
  go_loop [8] (fun i => ∃ k : Nat, k ≤ ss.length ∧ i = .int .i64 k ∧ (∀ j, j < k → ss[j]? ≠ some x)) (fun i => ss.length - (intOf i).toNat)
  case atStart => exact ⟨0, Nat.zero_le _, rfl, by omega⟩
  case round =>
    obtain ⟨k, hk, rfl, hall⟩ := hrel
    have HA := Lib.hid hall
    clear hall
    by_cases hlt : k < ss.length
    · rcases hr with hr | ⟨b, off, rfl, hc⟩
      · have : ss = [] := by simpa using hr
        subst this
        simp at hlt
      · have hcell : w.cell? ⟨b, off + k, none⟩ = some (.string ss[k]) := by
          have := hc.cell hs (i := k) (by simpa using hlt)
          simpa using this
        by_cases hx : x = ss[k]
        · have hb := str_beq_true hx
          have HF := Lib.hid (idxOf_at hlt HA.out (by rw [List.getElem?_eq_getElem hlt, ← hx]))
          clear hx
          go_wp2
          go_ret
          exact ⟨ret_n HF.out.symm, rfl⟩
        · have hb := str_beq_false hx
          have HF := Lib.hid hx
          clear hx
          go_wp2
          go_round
          case rel =>
            refine ⟨k + 1, by omega, by go_num, fun j hj => ?_⟩
            by_cases e : j = k
            · subst e; rw [List.getElem?_eq_getElem hlt]; exact fun e => HF.out (Option.some.inj e).symm
            · exact HA.out j (by omega)
          case measure => simp [intOf]; omega
    · have HF := Lib.hid (idxOf_none (x := x) (l := ss) (fun j hj => HA.out j (by omega)))
      go_wp2
      go_ret
      exact ⟨ret_n HF.out.symm, rfl⟩
theorem slices_Contains_string_string_ (w : World) (h : Hp) (hs : Sub h w) (v : Value) (ss : List ByteArray) (x : ByteArray) (hv : Sl h v (ss.map Value.string)) : Calls Try.prog 72 #[v, .string x] w fun e w' => e = .returned (.bool (inL x ss)) ∧ w = w' := by
  go_enter Try.func72, Try.ntmps72
  go_wp2_with (first | (go_at_call 114; refine (slices_Index_string_string_ _ h hs v ss x hv).mono ?_; rintro e w' ⟨rfl, rfl⟩))
  go_ret
  exact ⟨ret_b (idxOf_mem _ _), rfl⟩
theorem impl_keywords (w : World) : Calls Try.prog 106 #[] w fun e w' => e = .returned (.slice (some ⟨w.heap.size, 0, none⟩) 17 17) ∧ w.alloc (.cells kwCells.toArray 9) = w' := by
  go_enter Try.func106, Try.ntmps106
  go_wp2
  go_ret
  exact ⟨rfl, rfl⟩
theorem Sl_new (w : World) (vs : List Value) (e : TypeId) (h1 : vs.length ≤ maxLen) : Sl (hp (w.alloc (.cells vs.toArray e))) (.slice (some ⟨w.heap.size, 0, none⟩) vs.length vs.length) vs := by
  refine ⟨_, _, rfl, Nat.le_refl _, h1, .inr ⟨_, _, rfl, vs.toArray, e, (0, 0), ?_, fun i hi => ?_⟩⟩
  · show (w.heap.push _)[w.heap.size]? = _
    simp
  · simp
theorem impl_NameOk (w : World) (s : ByteArray) (hs : s.size ≤ maxLen) : Calls Try.prog 59 #[.string s] w fun e w' => e = .returned (.bool (nameM s)) ∧ Below w.heap.size w w' := by
  cases hW : wordM s.data.toList
  · go_enter Try.func59, Try.ntmps59
    go_wp2_with (first | (go_at_call 104; refine (impl_wordOk _ _ hs).mono ?_; rintro e w' ⟨rfl, rfl⟩))
    go_ret
    exact ⟨ret_b (by rw [nameM, hW]; rfl), Below.refl _ _⟩
  · have h0 := wordM_pos hW
    cases hL : lowI (s[0].toNat : Int)
    · go_enter Try.func59, Try.ntmps59
      go_wp2_with (first | (go_at_call 104; refine (impl_wordOk _ _ hs).mono ?_; rintro e w' ⟨rfl, rfl⟩) | (go_at_call 105; refine (impl_isLower _ _).mono ?_; rintro e w' ⟨rfl, rfl⟩))
      go_ret
      exact ⟨ret_b (by rw [nameM, hW, headIs_at _ _ h0, lowB, hL]; rfl), Below.refl _ _⟩
    · go_enter Try.func59, Try.ntmps59
      go_wp2_with (first | (go_at_call 104; refine (impl_wordOk _ _ hs).mono ?_; rintro e w' ⟨rfl, rfl⟩) | (go_at_call 105; refine (impl_isLower _ _).mono ?_; rintro e w' ⟨rfl, rfl⟩) | (go_at_call 106; refine (impl_keywords _).mono ?_; rintro e w' ⟨rfl, rfl⟩) | (go_at_call 72; refine (slices_Contains_string_string_ _ _ (Sub.self _) _ kwList s (Sl_new _ kwCells _ (by unfold maxLen; decide))).mono ?_; rintro e w' ⟨rfl, rfl⟩))
      go_ret
      exact ⟨ret_b (by rw [nameM, hW, headIs_at _ _ h0, lowB, hL]; rfl), (Below.refl _ _).alloc (Nat.le_refl _) _⟩
theorem inL_at {x : ByteArray} {l : List ByteArray} {k : Nat} (h : k < l.length) (e : x = l[k]) : inL x l = true := (inL_iff _ _).2 (e ▸ List.getElem_mem h)
theorem inL_none {x : ByteArray} {l : List ByteArray} (h : ∀ j, j < l.length → l[j]? ≠ some x) : inL x l = false := by
  cases e : inL x l with
  | false => rfl
  | true =>
    obtain ⟨j, hj, ej⟩ := List.getElem_of_mem ((inL_iff _ _).1 e)
    exact absurd (by rw [List.getElem?_eq_getElem hj, ej]) (h j hj)
theorem spec_l01Kept (w : World) (s : ByteArray) : Calls Try.prog 91 #[.string s] w fun e w' => e = .returned (.bool (inL s kwList)) ∧ Below w.heap.size w w' := by
  have hS := Sl_new w kwCells 9 (by unfold maxLen; decide)
  obtain ⟨a, c, e1, -, -, hr⟩ := hS
  injection e1 with e1 _ e2
  subst e1
  have HC : ∀ k (h : k < kwList.length) (wr : World), Sub (hp (w.alloc (.cells kwCells.toArray 9))) wr → wr.cell? ⟨w.heap.size, k, none⟩ = some (.string kwList[k]) := by
    intro k h wr hw
    rcases hr with hr | ⟨b, off, e, hc⟩
    · simp [kwCells, kwList] at hr
    · injection e with e; injection e with eb eo _; subst eb; subst eo
      have := hc.cell hw (i := k) (by simpa [kwCells] using h)
      simpa [kwCells] using this
  clear hr
  have HC := Lib.hid HC
  go_enter Try.func91, Try.ntmps91
  go_wp2
  go_loopw [7] (fun i wr => ∃ k : Nat, k ≤ 17 ∧ i = .int .i64 k ∧ (∀ j, j < k → kwList[j]? ≠ some s) ∧ Sub (hp (w.alloc (.cells kwCells.toArray 9))) wr ∧ Below w.heap.size w wr) (fun i _ => 17 - (intOf i).toNat)
  case atStart => exact ⟨0, Nat.zero_le _, rfl, by omega, Sub.self _, (Below.refl _ _).alloc (Nat.le_refl _) _⟩
  case round =>
    obtain ⟨k, hk, rfl, hall, hsub, hbel⟩ := hrel
    have HA := Lib.hid hall
    clear hall
    by_cases hlt : k < 17
    · have hcell := HC.out k hlt _ hsub
      generalize hq : kwList[k]'hlt = q at hcell
      by_cases hx : s = q
      · have hb := str_beq_true hx
        have HF := Lib.hid (inL_at (x := s) (l := kwList) hlt (by rw [hx, ← hq]))
        clear hx hq
        go_wp2
        go_ret
        exact ⟨ret_b HF.out.symm, hbel⟩
      · have hb := str_beq_false hx
        have HF := Lib.hid hx
        have HQ := Lib.hid hq
        clear hx hq
        go_wp2
        go_roundw
        case rel =>
          refine ⟨k + 1, by omega, by go_num, fun j hj => ?_, hsub, hbel⟩
          by_cases e : j = k
          · subst e; rw [List.getElem?_eq_getElem hlt, HQ.out]; exact fun e => HF.out (Option.some.inj e).symm
          · exact HA.out j (by omega)
        case measure => simp [intOf]; omega
    · have HF := Lib.hid (inL_none (x := s) (l := kwList) (fun j hj => HA.out j (by have : kwList.length = 17 := rfl; omega)))
      go_wp2
      go_ret
      exact ⟨ret_b HF.out.symm, hbel⟩
theorem spec_NameOk (w : World) (s : ByteArray) (hs : s.size ≤ maxLen) : Calls Try.prog 51 #[.string s] w fun e w' => e = .returned (.bool (nameM s)) ∧ Below w.heap.size w w' := by
  cases hW : spWord 1 s.data.toList
  · go_enter Try.func51, Try.ntmps51
    go_wp2_with (first | (go_at_call 90; refine (spec_l01Word _ _ _ hs).mono ?_; rintro e w' ⟨rfl, rfl⟩))
    go_ret
    exact ⟨ret_b (by rw [nameM, ← spWord_low, hW]; rfl), Below.refl _ _⟩
  · go_enter Try.func51, Try.ntmps51
    go_wp2_with (first | (go_at_call 90; refine (spec_l01Word _ _ _ hs).mono ?_; rintro e w' ⟨rfl, rfl⟩) | (go_at_call 91; refine (spec_l01Kept _ _).mono ?_; rintro e w1 ⟨rfl, hb⟩))
    go_ret
    exact ⟨ret_b (by rw [nameM, ← spWord_low, hW]; rfl), hb⟩
end Go.Proofs.Ytokjkmibnjfkaaa
