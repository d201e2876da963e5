/- Marks: the texts that the laws lay, items of types and numbers written over and asked. -/
import Derived.Test.YtbimnhbpcppfiaaFoot
import Derived.Test.YtbimnhbpcppfiaaTys
import Derived.Test.YtbimnhbpcppfiaaDInt
import Derived.Test.YtbimnhbpcppfiaaDecWalks
namespace Go.Proofs.Ytbimnhbpcppfiaa
set_option linter.unusedVariables false
set_option linter.unusedSimpArgs false
open Go.RowKit
/-- the text of a mark. -/
def markT (k : Int) : List UInt8 := 109 :: decL k.toNat
theorem markT_len {k : Int} (h : k ≤ 4611686018427387904) : (markT k).length ≤ 20 := by
  have := decL_len 18 k.toNat (by omega)
  unfold markT; simp; omega
theorem markT_pos {K : Nat} (l : List UInt8) (h : decL K = l) : (⟨#[109]⟩ : ByteArray) ++ bs l = bs (markT (K : Int)) := by
  unfold markT; rw [Int.toNat_natCast, h]; exact str_app [109] l
def mInv (K n : Nat) (l : List UInt8) : Prop := (0 < n → decL K = decL n ++ l) ∧ (n = 0 → decL K = l) ∧ l.length ≤ 20
theorem mInv_step {K n : Nat} {l : List UInt8} (h : mInv K n l) (h0 : 0 < n) (hK : K ≤ 4611686018427387904) : mInv K (n / 10) (dgt (n % 10) :: l) := by
  have e := h.1 h0
  have key : decL K = (if 0 < n / 10 then decL (n / 10) ++ (dgt (n % 10) :: l) else dgt (n % 10) :: l) := by
    by_cases q : 0 < n / 10
    · rw [if_pos q, e, decL_big (by omega)]; simp
    · rw [if_neg q, e, decL_small (by omega), Nat.mod_eq_of_lt (by omega)]; simp
  refine ⟨fun q => by rw [key, if_pos q], fun q => by rw [key, if_neg (by omega)], ?_⟩
  have hl := decL_len 18 K (by omega)
  rw [key] at hl
  split at hl
  · rw [List.length_append] at hl; omega
  · omega
set_option maxRecDepth 100000 in
theorem laws_markText (w : World) (k : Int) (hk : k ≤ 4611686018427387904) : Calls Try.prog 129 #[.int .i64 k] w fun e w' => e = .returned (.string (bs (markT k))) ∧ Below w.heap.size w w' := by
  by_cases h0 : k ≤ 0
  · have e : bs (markT k) = (⟨#[109, 48]⟩ : ByteArray) := by
      have : k.toNat = 0 := by omega
      unfold markT; rw [this, decL_small (by omega)]; rfl
    rw [e]
    go_enter Try.func129, Try.ntmps129
    go_wp2_with fail
    go_ret
    exact ⟨rfl, (by repeat (first | with_reducible exact Below.refl _ _ | with_reducible assumption | with_reducible refine Below.setCell ?_ ?_ _ | with_reducible refine Below.alloc ?_ ?_ _ | with_reducible refine Below.drew ?_ | (with_reducible apply below_chain; with_reducible assumption) | exact Nat.le_refl _ | omega | (simp <;> omega)))⟩
  · obtain ⟨K, rfl⟩ : ∃ K : Nat, k = K := ⟨k.toNat, by omega⟩
    go_enter Try.func129, Try.ntmps129
    go_wp2_with fail
    go_loopw [0, 3] (fun kv ov wr => ∃ (n : Nat) (l : List UInt8), n ≤ K ∧ kv = .int .i64 n ∧ ov = .string (bs l) ∧ mInv K n l ∧ Below w.heap.size w wr) (fun kv _ _ => (intOf kv).toNat)
    case atStart => exact ⟨K, [], by omega, rfl, rfl, ⟨fun _ => by simp, fun q => by omega, by simp⟩, Below.refl _ _⟩
    case round =>
      obtain ⟨n, l, hn, rfl, rfl, hinv, hbel⟩ := hrel
      have HI := Lib.hid hinv
      have hl := hinv.2.2
      clear hinv
      by_cases hp : 0 < n
      · have hp' : ((n : Nat) : Int) > 0 := by omega
        have hd : n % 10 < 10 := Nat.mod_lt _ (by omega)
        have e1 : Int.tmod (n : Int) 10 = ((n % 10 : Nat) : Int) := by rw [Int.tmod_eq_emod_of_nonneg (by omega)]; rfl
        have e2 : Int.tdiv (n : Int) 10 = ((n / 10 : Nat) : Int) := by rw [Int.tdiv_eq_ediv_of_nonneg (by omega)]; rfl
        have hcv := run_str_one (48 + ((n % 10 : Nat) : Int)) _ (dgtV hd)
        have e3 : IntKind.i64.wrap (48 + ((n % 10 : Nat) : Int)) = 48 + ((n % 10 : Nat) : Int) := IntWalk.i64_in _ (by omega)
        have e4 : IntKind.u8.wrap (48 + ((n % 10 : Nat) : Int)) = 48 + ((n % 10 : Nat) : Int) := IntWalk.u8_in _ (by omega)
        have z1 : (bs l).size ≤ 20 := by rw [bs_size]; exact hl
        have z2 : (bs [dgt (n % 10)]).size ≤ 1 := by rw [bs_size]; simp
        have HS := Lib.hid (mInv_step HI.out hp (by omega))
        go_wp2_with fail
        go_roundw
        case rel => exact ⟨n / 10, dgt (n % 10) :: l, by omega, congrArg (Value.int .i64) (by omega), by rw [str_app]; rfl, HS.out, (by first | exact hbel.alloc hbel.size _ | exact hbel)⟩
        case measure => simp [intOf]; omega
      · have hn0 : n = 0 := by omega
        have hp' : ¬ ((n : Nat) : Int) > 0 := by omega
        have z1 : (bs l).size ≤ 20 := by rw [bs_size]; exact hl
        have HE := Lib.hid (markT_pos l (HI.out.2.1 hn0))
        clear hn0
        go_wp2_with fail
        go_ret
        exact ⟨by rw [← HE.out]; rfl, (by repeat (first | with_reducible exact Below.refl _ _ | with_reducible assumption | with_reducible refine Below.setCell ?_ ?_ _ | with_reducible refine Below.alloc ?_ ?_ _ | with_reducible refine Below.drew ?_ | (with_reducible apply below_chain; with_reducible assumption) | exact Nat.le_refl _ | omega | (simp <;> omega)))⟩
abbrev tyX : Hp → List Value → TyI → List Nat → Prop := leafX TyI.cells TyI.ok
abbrev TyX (h : Hp) (v : Value) (xs : List TyI) (bs : List Nat) : Prop := OwnX 58 3 tyX h v xs bs
theorem TyX.readT {h : Hp} {v : Value} {xs : List TyI} {bs : List Nat} (q : TyX h v xs bs) : TyS h v xs := OwnX.read q fun _ _ _ h => ⟨h.1, h.2.1⟩
def tyMark (k : Int) (j : Nat) : TyI := ⟨k + 3 * j, bs (markT (k + 3 * j + 1)), k + 3 * j + 2⟩
def tyMarks (k : Int) (n : Nat) : List TyI := (List.range n).map (tyMark k)
theorem tyMarks_len (k : Int) (n : Nat) : (tyMarks k n).length = n := by simp [tyMarks]
def markSt {α : Type} (m : Nat → α) (xs : List α) (i : Nat) : List α := (List.range i).map m ++ xs.drop i
theorem markSt_zero {α : Type} (m : Nat → α) (xs : List α) : markSt m xs 0 = xs := by simp [markSt]
theorem markSt_end {α : Type} (m : Nat → α) (xs : List α) : markSt m xs xs.length = (List.range xs.length).map m := by simp [markSt]
theorem markSt_len {α : Type} (m : Nat → α) (xs : List α) (i : Nat) (h : i ≤ xs.length) : (markSt m xs i).length = xs.length := by simp [markSt]; omega
theorem markSt_set {α : Type} (m : Nat → α) (xs : List α) (i : Nat) (h : i < xs.length) : (markSt m xs i).set i (m i) = markSt m xs (i + 1) := by
  unfold markSt
  rw [List.set_append_right _ _ (by simp), List.length_map, List.length_range, Nat.sub_self, List.drop_eq_getElem_cons h, List.set_cons_zero, List.range_succ, List.map_append]
  simp
theorem flat_set {α : Type} {k : Nat} (enc : α → List Value) (l : List α) (i : Nat) (x : α) (hk : ∀ x, (enc x).length = k) (h : i < l.length) : setRow (l.flatMap enc) (i * k) (enc x) = (l.set i x).flatMap enc := by
  rw [List.flatMap_def, List.flatMap_def, setRow_flat (l.map enc) i (enc x) (fun r hr => by obtain ⟨y, _, rfl⟩ := List.mem_map.1 hr; exact hk y) (hk x) (by simpa using h), List.map_set]
theorem tyMark_ok (k : Int) (j : Nat) (h0 : 0 ≤ k) (h1 : k + 3 * j ≤ 4000000000) : (tyMark k j).ok := by
  refine ⟨⟨by show _ ≤ k + 3 * (j : Int); omega, by show k + 3 * (j : Int) ≤ _; omega⟩, ?_, ⟨by show _ ≤ k + 3 * (j : Int) + 2; omega, by show k + 3 * (j : Int) + 2 ≤ _; omega⟩⟩
  show (bs (markT (k + 3 * j + 1))).size ≤ maxLen
  rw [bs_size]
  have := markT_len (k := k + 3 * j + 1) (by omega)
  unfold maxLen; omega
def markPost (w : World) (v : Value) (k : Int) (n : Nat) (bs : List Nat) (e : Ending) (w' : World) : Prop := e = .returned (.int .i64 (k + 3 * n)) ∧ TyX (hp w') v (tyMarks k n) bs ∧ Fr bs w w'
set_option maxRecDepth 100000 in
set_option maxHeartbeats 2000000 in
theorem laws_markTyItemS (w : World) (v : Value) (xs : List TyI) (bs : List Nat) (hv : TyX (hp w) v xs bs) (hl : xs.length ≤ 1048576) (k : Int) (h0 : 0 ≤ k) (h1 : k ≤ 4000000) :
    Calls Try.prog 74 #[v, .int .i64 k] w fun e w' => markPost w v k xs.length bs e w' := by
  rcases hv.toOwn with rfl | ⟨g, c, rfl, rfl, hown⟩
  · obtain ⟨a, c, rfl, -⟩ := hv.len
    have HV := Lib.hid hv
    clear hv
    go_enter Try.func74, Try.ntmps74
    go_wp2_with fail
    go_loopw [1, 5] (fun kv iv wr => kv = .int .i64 k ∧ iv = .int .i64 0 ∧ wr = w) (fun _ _ _ => 0)
    case atStart => exact ⟨rfl, rfl, rfl⟩
    case round =>
      obtain ⟨rfl, rfl, rfl⟩ := hrel
      go_wp2_with fail
      go_ret
      exact ⟨by simp, HV.out, Fr.refl _ _⟩
  · clear hv
    have HO := Lib.hid hown
    have hg0 := (own_parts hown).2.2.2.2.2
    have hcap : xs.length ≤ c ∧ c ≤ maxLen := by obtain ⟨a, c', e, h1, h2⟩ := own_len hown; injection e with _ _ e; subst e; exact ⟨h1, h2⟩
    obtain ⟨hc1, hc2⟩ := hcap
    unfold maxLen at hc2
    clear hown
    go_enter Try.func74, Try.ntmps74
    go_wp2_with fail
    go_loopw [1, 5] (fun kv iv wr => ∃ i : Nat, i ≤ xs.length ∧ iv = .int .i64 i ∧ kv = .int .i64 (k + 3 * i) ∧ Own wr g 58 3 (.slice (some ⟨g, 0, none⟩) xs.length c) xs.length ((markSt (tyMark k) xs i).flatMap TyI.cells) ∧ Fr [g] w wr) (fun _ iv _ => xs.length - (intOf iv).toNat)
    case atStart => exact ⟨0, by omega, rfl, by simp, by rw [markSt_zero]; exact HO.out, Fr.refl _ _⟩
    case round =>
      obtain ⟨i, hi, rfl, rfl, hown, hfr⟩ := hrel
      by_cases hlt : i < xs.length
      · obtain ⟨⟨o0, g0⟩, f0⟩ := own_cells hown (i * 3) (by omega)
        have HW := Lib.hid hown
        have HF := Lib.hid hfr
        have hgl := (own_parts hown).2.2.2.2.2
        clear hown hfr
        go_wp2_with fail
        refine (laws_markText _ _ (by omega)).mono ?_
        rintro e w1 ⟨rfl, hb1⟩
        have HW1 := Lib.hid (own_kept (own_set HW.out (i * 3) (.int .i64 (k + 3 * i))) hb1 (Nat.le_refl _))
        have HF1 := Lib.hid ((HF.out.setCell (p := ⟨g, i * 3, none⟩) (by simp) (.int .i64 (k + 3 * i))).trans (Fr.of_below [g] hb1))
        obtain ⟨⟨o1, g1⟩, f1⟩ := own_cells HW1.out (i * 3 + 1) (by omega)
        obtain ⟨⟨o2, g2⟩, f2⟩ := own_cells HW1.out (i * 3 + 2) (by omega)
        clear hb1 g0 f0
        go_wp2_with fail
        go_roundw
        case rel =>
          refine ⟨i + 1, by omega, by go_num, congrArg (Value.int .i64) (by omega), ?_, (HF1.out.setCell (by simp) _).setCell (by simp) _⟩
          rw [← markSt_set (tyMark k) xs i hlt, ← flat_set (k := 3) TyI.cells _ i _ (fun _ => rfl) (by rw [markSt_len _ _ _ hi]; exact hlt)]
          have := own_set (own_set HW1.out (i * 3 + 1) (.string (Go.Proofs.Ytbimnhbpcppfiaa.bs (markT (k + 3 * i + 1))))) (i * 3 + 2) (.int .i64 (k + 3 * i + 2))
          have e2 : k + 3 * (i : Int) + 1 + 1 = k + 3 * i + 2 := by omega
          rw [e2]
          simpa [setRow, TyI.cells, tyMark, Nat.add_assoc] using this
        case measure => simp [intOf]; omega
      · obtain rfl : i = xs.length := by omega
        have HW := Lib.hid hown
        have HF := Lib.hid hfr
        clear hown hfr
        go_wp2_with fail
        go_ret
        refine ⟨rfl, ?_, HF.out⟩
        have hq := HW.out
        rw [markSt_end] at hq
        exact OwnX.leafG (tyMarks k xs.length) TyI.cells TyI.ok (fun _ _ => rfl) (fun x hx => by
          obtain ⟨j, hj, rfl⟩ := List.mem_map.1 hx
          have := List.mem_range.1 hj
          exact tyMark_ok k j h0 (by omega)) (by rw [tyMarks_len]; exact hq)
set_option maxRecDepth 100000 in
set_option maxHeartbeats 2000000 in
theorem laws_heldTyItemS (w : World) (h : Hp) (hs : Sub h w) (v : Value) (k : Int) (n : Nat) (h0 : 0 ≤ k) (h1 : k ≤ 4000000) (hn : n ≤ 1048576) (hv : TyS h v (tyMarks k n)) :
    Calls Try.prog 75 #[v, .int .i64 k] w fun e w' => e = .returned (.int .i64 (k + 3 * n)) ∧ Below w.heap.size w w' := by
  have HV := Lib.hid hv
  have hlen := tyMarks_len k n
  obtain ⟨a, c, rfl, hc1, hc2, -⟩ := hv
  rw [hlen] at HV hc1 ⊢
  unfold maxLen at hc2
  go_enter Try.func75, Try.ntmps75
  go_wp2_with fail
  go_loopw [1, 5] (fun kv iv wr => ∃ i : Nat, i ≤ n ∧ iv = .int .i64 i ∧ kv = .int .i64 (k + 3 * i) ∧ Below w.heap.size w wr) (fun _ iv _ => n - (intOf iv).toNat)
  case atStart => exact ⟨0, by omega, rfl, by simp, Below.refl _ _⟩
  case round =>
    obtain ⟨i, hi, rfl, rfl, hbel⟩ := hrel
    by_cases hlt : i < n
    · have hlt' : i < (tyMarks k n).length := by rw [hlen]; exact hlt
      obtain ⟨b, off, rfl, hcell⟩ := HV.out.cell hlt'
      obtain ⟨c0, c1, c2⟩ := hcell i hlt' wr (hs.below hbel)
      have e0 : (tyMarks k n)[i] = tyMark k i := by simp [tyMarks]
      rw [e0] at c0 c1 c2
      unfold tyMark at c0 c1 c2
      dsimp only at c0 c1 c2
      clear hcell e0
      go_wp2_with fail
      go_region_law (first | (refine step_guard rfl ?_; go_simp; go_at_call 129; refine (laws_markText _ _ (by omega)).mono ?_; rintro e w2 ⟨rfl, hb2⟩; dsimp only; replace hb2 := below_undrew hb2; have d1 := cell_kept hb2 c1; have d2 := cell_kept hb2 c2))
      all_goals
        go_wp2_with fail
        refine ⟨⟨i + 1, by omega, by go_num, congrArg (Value.int .i64) (by omega), below_chain hb2 hbel hbel.size⟩, ?_⟩
        simp [intOf]; omega
    · obtain rfl : i = n := by omega
      go_wp2_with fail
      go_ret
      exact ⟨rfl, hbel⟩
theorem laws_markTy (w : World) (v : Value) (xs : List TyI) (bs : List Nat) (hv : TyX (hp w) v xs bs) (hlt : ∀ b ∈ bs, b < w.heap.size) (hl : xs.length ≤ 1048576) (k : Int) (h0 : 0 ≤ k) (h1 : k ≤ 4000000) :
    Calls Try.prog 22 #[.agg #[v], .int .i64 k] w fun e w' => markPost w v k xs.length bs e w' := by
  obtain ⟨a, c, rfl, -⟩ := hv.len
  have HV := Lib.hid (hv.mono (h' := hp (w.alloc (.cells #[.slice a xs.length c] 28))) (fun b hb => ((Below.refl w.heap.size w).alloc (Nat.le_refl _) _).block b (hlt b hb)) (fun _ _ _ _ q => q))
  clear hv
  go_enter Try.func22, Try.ntmps22
  go_wp2_with fail
  refine (laws_markTyItemS _ _ xs bs HV.out hl k h0 h1).mono ?_
  rintro e w1 ⟨rfl, hx, hf⟩
  have HX := Lib.hid hx
  clear hx
  go_wp2_with fail
  go_ret
  exact ⟨rfl, HX.out, (Fr.of_below bs ((Below.refl w.heap.size w).alloc (Nat.le_refl _) _)).trans hf⟩
theorem laws_heldTy (w : World) (h : Hp) (hs : Sub h w) (v : Value) (k : Int) (n : Nat) (h0 : 0 ≤ k) (h1 : k ≤ 4000000) (hn : n ≤ 1048576) (hv : TyS h v (tyMarks k n)) :
    Calls Try.prog 23 #[.agg #[v], .int .i64 k] w fun e w' => e = .returned (.int .i64 (k + 3 * n)) ∧ Below w.heap.size w w' := by
  obtain ⟨a, c, e1, -⟩ := id hv
  rw [tyMarks_len] at e1
  subst e1
  go_enter Try.func23, Try.ntmps23
  go_wp2_with fail
  refine (laws_heldTyItemS _ h (hs.alloc _) _ k n h0 h1 hn hv).mono ?_
  rintro e w1 ⟨rfl, hb1⟩
  obtain ⟨kc1, kf1⟩ := bcell hb1; have kz1 := hb1.size; (try simp at kz1); (first | (refine (fun (kw1_0 : w.heap.size  < w1.heap.size) => ?_) ?_; rotate_left; omega) | skip); (first | (refine (fun (kw1_1 : w.heap.size + 1 < w1.heap.size) => ?_) ?_; rotate_left; omega) | skip); (first | (refine (fun (kw1_2 : w.heap.size + 1 + 1 < w1.heap.size) => ?_) ?_; rotate_left; omega) | skip)
  have hk : ¬ k + 3 * (n : Int) < 0 := by omega
  go_wp2_with fail
  go_ret
  exact ⟨rfl, (by repeat (first | with_reducible exact Below.refl _ _ | with_reducible assumption | with_reducible refine Below.setCell ?_ ?_ _ | with_reducible refine Below.alloc ?_ ?_ _ | with_reducible refine Below.drew ?_ | (with_reducible apply below_chain; with_reducible assumption) | exact Nat.le_refl _ | omega | (simp <;> omega)))⟩
/-- a copy whose blocks are known. -/
def TyxPost (w : World) (xs : List TyI) (e : Ending) (w' : World) : Prop := ∃ v' bs, e = .returned v' ∧ TyX (hp w') v' xs bs ∧ bs.Nodup ∧ (∀ b ∈ bs, w.heap.size ≤ b ∧ b < w'.heap.size) ∧ Below w.heap.size w w'
theorem laws_toTyItemSx (w : World) (h : Hp) (hs : Sub h w) (v : Value) (xs : List TyI) (hv : TyS h v xs) (hl : xs.length ≤ 1048576) :
    Calls Try.prog 71 #[v] w fun e w' => TyxPost w xs e w' := by
  have hm := Lib.hid hv.mem
  have HV := Lib.hid hv
  obtain ⟨a, c, rfl, hc1, hc2, -⟩ := hv
  unfold maxLen at hc2
  have hlm : xs.length ≤ maxLen := by unfold maxLen; omega
  go_enter Try.func71, Try.ntmps71
  go_wp2_with (first | (at_make; refine make_n Try.underlying26 info_TyItem w rfl _ _ rfl w.heap.size _ _ xs.length rfl rfl rfl rfl (by omega) hlm (Nat.le_refl _) ?_))
  intro w1 hown hb1
  have hz1 := hb1.size
  rw [tySt_zero] at hown
  have hg : w.heap.size < w1.heap.size := (own_parts hown).2.2.2.2.2
  have hsub1 := hs.below hb1
  have HO1 := Lib.hid hown
  clear hown
  go_wp2
  go_loopw [4] (fun i wr => ∃ k : Nat, k ≤ xs.length ∧ i = .int .i64 k ∧ Own wr w.heap.size 58 3 (.slice (some ⟨w.heap.size, 0, none⟩) xs.length xs.length) xs.length (tySt xs k) ∧ Sub h wr ∧ Below w.heap.size w wr) (fun i _ => xs.length - (intOf i).toNat)
  case atStart => exact ⟨0, by omega, rfl, HO1.out, hsub1, hb1⟩
  case round =>
    obtain ⟨k, hk, rfl, hown, hsub, hbel⟩ := hrel
    by_cases hlt : k < xs.length
    · obtain ⟨b, off, rfl, hcell⟩ := HV.out.cell hlt
      obtain ⟨c0, c1, c2⟩ := hcell k hlt wr hsub
      obtain ⟨-, -, hxl, hcs, hfr, hgl⟩ := own_parts hown
      have hnone : h w.heap.size = none := hs.none (Nat.le_refl _)
      have HN := Lib.hid hnone
      have HW := Lib.hid hown
      clear hcell hcs hfr hown hxl hnone
      go_wp2_with fail
      refine (laws_toTyItem _ _ _ _).mono ?_
      rintro e w2 ⟨rfl, hb2⟩
      have HW2 := Lib.hid (own_kept HW.out hb2 (Nat.le_refl _))
      have hz2 := hb2.size
      obtain ⟨⟨o0, g0⟩, f0⟩ := own_cells HW2.out (k * 3) (by omega)
      obtain ⟨⟨o1, g1⟩, f1⟩ := own_cells HW2.out (k * 3 + 1) (by omega)
      obtain ⟨⟨o2, g2⟩, f2⟩ := own_cells HW2.out (k * 3 + 2) (by omega)
      have HS := Lib.hid (own_set (own_set (own_set HW2.out (k * 3) (.int .i64 xs[k].v)) (k * 3 + 1) (.string xs[k].name)) (k * 3 + 2) (.int .i64 xs[k].ar))
      have hsub2 := hsub.below hb2
      go_wp2_with fail
      go_roundw
      case rel => exact ⟨k + 1, by omega, by go_num, by rw [← tySt_succ xs k hlt]; exact HS.out, ((hsub2.setCell HN.out _).setCell HN.out _).setCell HN.out _, (((below_chain hb2 hbel hbel.size).setCell (Nat.le_refl _) _).setCell (Nat.le_refl _) _).setCell (Nat.le_refl _) _⟩
      case measure => simp [intOf]; omega
    · obtain rfl : k = xs.length := by omega
      have HX := Lib.hid (OwnX.leaf xs TyI.cells TyI.ok (fun _ _ => rfl) hm.out (by rw [← tySt_end]; exact hown))
      clear hown
      go_wp2
      go_ret
      obtain ⟨bs, q1, q2, q3⟩ := HX.out
      exact ⟨_, bs, rfl, q1, q2, q3, hbel⟩
def Tyx1Post (w : World) (xs : List TyI) (e : Ending) (w' : World) : Prop := ∃ v' bs, e = .returned (.agg #[v']) ∧ TyX (hp w') v' xs bs ∧ bs.Nodup ∧ (∀ b ∈ bs, w.heap.size ≤ b ∧ b < w'.heap.size) ∧ Below w.heap.size w w'
theorem TyX.keep {v : Value} {xs : List TyI} {bs : List Nat} {w w' : World} (q : TyX (hp w) v xs bs) (hb : ∀ b ∈ bs, w'.heap[b]? = w.heap[b]?) : TyX (hp w') v xs bs := OwnX.mono q hb fun _ _ _ _ q => q
theorem laws_toTyx (w : World) (h : Hp) (hs : Sub h w) (v : Value) (xs : List TyI) (hv : TyS h v xs) (hl : xs.length ≤ 1048576) :
    Calls Try.prog 19 #[.agg #[v]] w fun e w' => Tyx1Post w xs e w' := by
  go_enter Try.func19, Try.ntmps19
  go_wp2_with fail
  refine (laws_toTyItemSx _ h (by first | exact (((hs.alloc _).alloc _).alloc _) | exact ((hs.alloc _).alloc _) | exact hs.alloc _) v xs hv hl).mono ?_
  rintro e w1 ⟨v', bs, rfl, hx, hn, hb, hb1⟩
  obtain ⟨a', c', rfl, -⟩ := hx.len
  have HX := Lib.hid hx
  have HB := Lib.hid hb
  clear hx hb
  obtain ⟨kc1, kf1⟩ := bcell hb1; have kz1 := hb1.size; (try simp at kz1); (first | (refine (fun (kw1_0 : w.heap.size  < w1.heap.size) => ?_) ?_; rotate_left; omega) | skip); (first | (refine (fun (kw1_1 : w.heap.size + 1 < w1.heap.size) => ?_) ?_; rotate_left; omega) | skip); (first | (refine (fun (kw1_2 : w.heap.size + 1 + 1 < w1.heap.size) => ?_) ?_; rotate_left; omega) | skip)
  go_wp2_with fail
  refine bodyPost_ret (v := .agg #[.slice a' xs.length c']) (by simp [results, Try.results19, go_sem, kc1]) rfl ⟨_, bs, rfl, ?_, hn, ?_, ?_⟩
  · refine TyX.keep HX.out fun b hb => ?_
    have hb2 := (HB.out b hb).1
    simp at hb2
    rw [Below.heap_setCell _ _ _ _ (by show b ≠ w.heap.size + 1; omega), Below.heap_setCell _ _ _ _ (by show b ≠ w.heap.size + 1 + 1; omega)]
  · intro b hb
    have hb2 := HB.out b hb
    simp at hb2 ⊢
    omega
  · exact (by repeat (first | with_reducible exact Below.refl _ _ | with_reducible assumption | with_reducible refine Below.setCell ?_ ?_ _ | with_reducible refine Below.alloc ?_ ?_ _ | with_reducible refine Below.drew ?_ | (with_reducible apply below_chain; with_reducible assumption) | exact Nat.le_refl _ | omega | (simp <;> omega)))
end Go.Proofs.Ytbimnhbpcppfiaa
