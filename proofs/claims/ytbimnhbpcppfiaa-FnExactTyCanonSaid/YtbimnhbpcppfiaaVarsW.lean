/- The variables of a type, the canonical type: the program's text. -/
import Derived.Test.YtbimnhbpcppfiaaVarsM
import Derived.Test.YtbimnhbpcppfiaaMark
import Derived.Test.YtbimnhbpcppfiaaTyTop
namespace Go.Proofs.Ytbimnhbpcppfiaa
set_option linter.unusedVariables false
set_option linter.unusedSimpArgs false
open Go.RowKit
theorem fresh_cell (w : World) (cs : Array Value) (t : TypeId) (i : Nat) : (w.alloc (.cells cs t)).cell? ⟨w.heap.size, i, none⟩ = cs[i]? := by
  have : (w.alloc (.cells cs t)).heap[w.heap.size]? = some (.cells cs t) := by show (w.heap.push _)[w.heap.size]? = _; simp
  simp only [World.cell?, this]
  rw [if_neg (by simp)]
def idxZ (l : List Int) (x : Int) : Int := if x ∈ l then (idxN l x : Nat) else -1
theorem slices_Index_int (w : World) (h : Hp) (hs : Sub h w) (v : Value) (xs : List Int) (hv : IntS h v xs) (x : Int) :
    Calls Try.prog 156 #[v, .int .i64 x] w fun e w' => e = .returned (.int .i64 (idxZ xs x)) ∧ w = w' := by
  have HV := Lib.hid hv
  obtain ⟨a, c, rfl, hc1, hc2, -⟩ := hv
  unfold maxLen at hc2
  go_enter Try.func156, Try.ntmps156
  go_wp2_with fail
  go_loop [5, 8] (fun _ i => ∃ k : Nat, k ≤ xs.length ∧ i = .int .i64 k ∧ ∀ j (hj : j < xs.length), j < k → xs[j] ≠ x) (fun _ i => xs.length - (intOf i).toNat)
  case atStart => exact ⟨0, by omega, rfl, fun _ _ q => by omega⟩
  case round =>
    obtain ⟨k, hk, rfl, hne⟩ := hrel
    have HN := Lib.hid hne
    clear hne
    by_cases hlt : k < xs.length
    · obtain ⟨b, off, rfl, hcell⟩ := HV.out.cell hlt
      have c0 := hcell k hlt w hs
      clear hcell
      by_cases hx : xs[k] = x
      · have hx' : (x == xs[k]) = true := by simpa using hx.symm
        have HE := Lib.hid (show idxZ xs x = (k : Int) by
          unfold idxZ
          rw [if_pos (by rw [← hx]; exact List.getElem_mem hlt), idxN_at xs x k hlt hx (fun j hj => HN.out j (by omega) hj)])
        clear hx
        go_wp2_with fail
        go_ret
        exact ⟨by rw [HE.out]; rfl, rfl⟩
      · have hx' : (x == xs[k]) = false := by simpa using fun e : x = xs[k] => hx e.symm
        have HX := Lib.hid hx
        clear hx
        go_wp2_with fail
        go_round
        case rel =>
          refine ⟨k + 1, by omega, by go_num, fun j hj q => ?_⟩
          by_cases e : j = k
          · subst e; exact HX.out
          · exact HN.out j hj (by omega)
        case measure => simp [intOf]; omega
    · have HE := Lib.hid (show idxZ xs x = -1 by
        unfold idxZ
        rw [if_neg]
        intro hm
        obtain ⟨j, hj, e⟩ := List.getElem_of_mem hm
        exact HN.out j hj (by omega) e)
      go_wp2_with fail
      go_ret
      exact ⟨by rw [HE.out]; rfl, rfl⟩
theorem slices_Contains_int (w : World) (h : Hp) (hs : Sub h w) (v : Value) (xs : List Int) (hv : IntS h v xs) (hl : xs.length ≤ 1000000000) (x : Int) :
    Calls Try.prog 146 #[v, .int .i64 x] w fun e w' => e = .returned (.bool (decide (x ∈ xs))) ∧ w = w' := by
  obtain ⟨z, hz⟩ : ∃ z, idxZ xs x = z := ⟨_, rfl⟩
  have hd : decide (x ∈ xs) = decide (0 ≤ z) := by
    rw [← hz]; unfold idxZ
    by_cases q : x ∈ xs
    · rw [if_pos q, decide_eq_true q, decide_eq_true (by omega)]
    · rw [if_neg q, decide_eq_false q]; rfl
  have hb : -1 ≤ z ∧ z ≤ 1000000000 := by
    rw [← hz]; unfold idxZ
    have := idxN_le xs x
    split <;> omega
  rw [hd]
  have HC := Lib.hid (slices_Index_int w h hs v xs hv x)
  rw [hz] at HC
  clear hd hz hv
  go_enter Try.func146, Try.ntmps146
  go_wp2_with (first | (go_at_call 156; refine HC.out.mono ?_; rintro e w1 ⟨rfl, rfl⟩))
  go_ret
  exact ⟨by first | rfl | simp, rfl⟩
def OwnInt (w : World) (B : Nat) (v : Value) (xs : List Int) : Prop := Own w B 3 1 v xs.length (xs.map (Value.int .i64))
theorem OwnInt.read {w : World} {B : Nat} {v : Value} {xs : List Int} (h : OwnInt w B v xs) (hx : ∀ x ∈ xs, I64 x) (h' : Hp) (hh' : ∀ b, B ≤ b → h' b = w.heap[b]?) : IntS h' v xs :=
  own_read xs (fun x => [.int .i64 x]) (fun _ _ => rfl) intR h' hh' (fun x q => ⟨rfl, hx x q⟩) (e := 3) (B := B) (by rw [← List.map_eq_flatMap]; exact h)
def varsPost (w : World) (xs : List TyI) (e : Ending) (w' : World) : Prop := ∃ v', e = .returned v' ∧ OwnInt w' w.heap.size v' (varsM xs) ∧ Below w.heap.size w w'
theorem varsM_I64 {xs : List TyI} (h : ∀ x ∈ xs, x.ok) : ∀ z ∈ varsM xs, I64 z := fun z hz => by
  obtain ⟨x, hx, _, rfl⟩ := (varsM_mem' xs z).1 hz
  exact (h x hx).1
theorem take_mem {α : Type} {xs : List α} {P : α → Prop} (h : ∀ x ∈ xs, P x) (k : Nat) : ∀ x ∈ xs.take k, P x := fun x hx => h x (List.mem_of_mem_take hx)
theorem varB_nil {x : TyI} (h : varB x = true) : x.name.toList = [] := by unfold varB at h; simpa using h
set_option maxRecDepth 100000 in
set_option maxHeartbeats 4000000 in
theorem impl_varsIn (w : World) (h : Hp) (hs : Sub h w) (v : Value) (xs : List TyI) (hv : TyS h v xs) (hl : xs.length ≤ 100000000) :
    Calls Try.prog 82 #[v] w fun e w' => varsPost w xs e w' := by
  have hm := Lib.hid hv.mem
  have HV := Lib.hid hv
  obtain ⟨a, c, rfl, hc1, hc2, -⟩ := hv
  unfold maxLen at hc2
  have own0 := Lib.hid (own_made w w.heap.size (Nat.le_refl _) 3 1 0 [] rfl (by decide))
  go_enter Try.func82, Try.ntmps82
  go_wp2_with fail
  go_loopw [3, 9] (fun ov iv wr => ∃ k : Nat, k ≤ xs.length ∧ iv = .int .i64 k ∧ OwnInt wr w.heap.size ov (varsM (xs.take k)) ∧ Below w.heap.size w wr) (fun _ iv _ => xs.length - (intOf iv).toNat)
  case atStart => exact ⟨0, by omega, rfl, own0.out, (Below.refl _ _).alloc (Nat.le_refl _) _⟩
  case round =>
    obtain ⟨k, hk, rfl, hown, hbel⟩ := hrel
    have hsub : Sub h wr := hs.below hbel
    have hvl := varsM_len xs k hk
    obtain ⟨va, vc, rfl, hvc1, hvc2⟩ := own_len hown
    unfold maxLen at hvc2
    have HO := Lib.hid hown
    have hz := hbel.size
    clear hown
    by_cases hlt : k < xs.length
    · obtain ⟨bl, off, rfl, hcell⟩ := HV.out.cell hlt
      obtain ⟨c0, c1, c2⟩ := hcell k hlt wr hsub
      have HT := Lib.hid (varsM_take xs k hlt)
      have hx := hm.out _ (List.getElem_mem hlt)
      have HI := Lib.hid (fun (wx : World) (hb : Below wr.heap.size wr wx) => slices_Contains_int wx (hp wx) (Sub.self _) _ _ (OwnInt.read (own_kept HO.out hb (Nat.le_refl _)) (varsM_I64 (take_mem hm.out k)) (hp wx) (fun _ _ => rfl)) (by omega) xs[k].v)
      clear hcell
      obtain ⟨x, hxe⟩ : ∃ x, x = xs[k] := ⟨_, rfl⟩
      rw [← hxe] at c0 c1 c2 HT HI hx
      clear hxe
      obtain ⟨⟨x1, x2⟩, x3, x4⟩ := hx
      obtain ⟨x, s, ar⟩ := x
      dsimp only at c0 c1 c2 HI x1 x2 x3 x4
      cases hE : s.toList.isEmpty
      · have HS := Lib.hid (varsStep_old (seen := varsM (xs.take k)) (x := ⟨x, s, ar⟩) (fun q => by unfold varB at q; rw [hE] at q; cases q))
        go_wp2_with fail
        go_roundw
        case rel => exact ⟨k + 1, by omega, by go_num, by rw [HT.out, HS.out]; exact World.ownsRow.alloc HO.out _, hbel.alloc hz _⟩
        case measure => simp [intOf]; omega
      · cases hC : decide (x ∈ varsM (xs.take k))
        · have HN := Lib.hid (of_decide_eq_false hC)
          have HS := Lib.hid (varsStep_new (seen := varsM (xs.take k)) (x := ⟨x, s, ar⟩) (by unfold varB; exact hE) HN.out)
          rw [hC] at HI
          clear hC
          go_wp2_with fail
          refine (HI.out _ (Below.alloc (Below.refl _ _) (Nat.le_refl _) _)).mono ?_
          rintro e w1 ⟨rfl, hw⟩
          have q0 : w1.cell? ⟨wr.heap.size, 0, none⟩ = some (.int .i64 x) := by rw [← hw]; exact (fresh_cell wr #[.int .i64 x, .string s, .int .i64 ar] 58 0).trans rfl
          have hb1 : Below wr.heap.size wr w1 := by rw [← hw]; exact Below.alloc (Below.refl _ _) (Nat.le_refl _) _
          have HO1 := Lib.hid (own_kept HO.out hb1 (Nat.le_refl _))
          have hz1 := hb1.size
          clear hw c0 c1 c2
          go_wp2_with (first | (at_builtin; refine app_lit (k := 1) (z := .int .i64 0) (bytes := 8) Try.underlying89 info_int rfl Nat.one_pos w1 rfl _ _ rfl w.heap.size (.slice va (varsM (xs.take k)).length vc) (varsM (xs.take k)).length ((varsM (xs.take k)).map (Value.int .i64)) rfl HO1.out 1 [.int .i64 x] rfl [.int .i64 x] rfl rfl ?_ ?_ ?_ ?_ ?_))
          · intro u hu
            obtain rfl : u = .int .i64 x := by simpa using hu
            rfl
          · unfold maxLen; omega
          · omega
          · omega
          · intro v' w' hown' hb'
            have HW' := Lib.hid hown'
            clear hown'
            go_wp2_with fail
            refine ⟨⟨k + 1, by omega, by go_num, ?_, (hbel.trans (hb1.mono hz)).trans hb'⟩, by simp [intOf]; omega⟩
            rw [HT.out, HS.out]
            unfold OwnInt
            rw [List.length_append, List.map_append]
            exact HW'.out
        · have HN := Lib.hid (of_decide_eq_true hC)
          have HS := Lib.hid (varsStep_old (seen := varsM (xs.take k)) (x := ⟨x, s, ar⟩) (fun _ => HN.out))
          rw [hC] at HI
          clear hC
          go_wp2_with (first | (go_at_call 146; refine (HI.out _ (Below.alloc (Below.refl _ _) (Nat.le_refl _) _)).mono ?_; rintro e w1 ⟨rfl, rfl⟩))
          go_roundw
          case rel => exact ⟨k + 1, by omega, by go_num, by rw [HT.out, HS.out]; exact World.ownsRow.alloc HO.out _, hbel.alloc hz _⟩
          case measure => simp [intOf]; omega
    · obtain rfl : k = xs.length := by omega
      go_wp2_with fail
      go_ret
      refine ⟨_, rfl, ?_, hbel⟩
      have hq := HO.out
      rw [List.take_length] at hq
      simpa using hq
end Go.Proofs.Ytbimnhbpcppfiaa
