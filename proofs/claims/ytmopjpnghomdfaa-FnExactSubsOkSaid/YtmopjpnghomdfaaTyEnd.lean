/- l04End: the end of a type that begins at a place. -/
import Derived.Test.YtmopjpnghomdfaaTyWalks
namespace Go.Proofs.Ytmopjpnghomdfaa
set_option linter.unusedVariables false
set_option linter.unusedSimpArgs false
open Go.RowKit Go.ChangeShapes Go.WideShapes
set_option maxRecDepth 100000 in
set_option maxHeartbeats 2000000 in
theorem spec_l04End : ∀ (n : Nat) (w : World) (h : Hp) (hs : Sub h w) (v : Value) (xs : List TyI) (hv : TyS h v xs) (hit : ∀ x ∈ xs, 0 ≤ x.ar ∧ x.ar ≤ 2) (hl : xs.length ≤ 1000000000) (k : Nat) (hn : xs.length - k ≤ n) (hk : k ≤ xs.length),
    Calls Try.prog 74 #[.agg #[v], .int .i64 k] w fun e w' => e = .returned (.int .i64 (endM xs k)) ∧ Below w.heap.size w w'
  | n, w, h, hs, v, xs, hv, hit, hl, k, hn, hk => by
    have HV := Lib.hid hv
    have HT := Lib.hid hit
    obtain ⟨a, c, rfl, hc1, hc2, -⟩ := hv
    unfold maxLen at hc2
    clear hit
    by_cases hlt : k < xs.length
    · obtain ⟨bl, off, rfl, hcell⟩ := HV.out.cell hlt
      have HC := Lib.hid (hcell k hlt)
      obtain ⟨r0, r1⟩ := HT.out _ (List.getElem_mem hlt)
      have HSt := Lib.hid (endM_step xs k hlt)
      clear hcell
      obtain ⟨x, hxe⟩ : ∃ x, x = xs[k] := ⟨_, rfl⟩
      rw [← hxe] at HC HSt r0 r1
      clear hxe
      have hw : ((x.ar.toNat : Nat) : Int) = x.ar := Int.toNat_of_nonneg r0
      obtain ⟨m, rfl⟩ : ∃ m, n = m + 1 := ⟨n - 1, by omega⟩
      have n1 : ¬ xs.length ≤ k := by omega
      have n2 : ¬ (k : Int) < 0 := by omega
      have n3 : ¬ (xs.length : Int) ≤ (k : Int) := by omega
      go_enter Try.func74, Try.ntmps74
      go_wp2
      go_loopw [5, 6] (fun nx i wr => ∃ (j : Nat), j ≤ x.ar.toNat ∧ i = .int .i64 j ∧ nx = .int .i64 (endsM xs (k + 1) j) ∧ Below (w.alloc (.cells #[.slice (some ⟨bl, off, none⟩) xs.length c] 36)).heap.size (w.alloc (.cells #[.slice (some ⟨bl, off, none⟩) xs.length c] 36)) wr) (fun _ i _ => x.ar.toNat - (intOf i).toNat)
      case atStart => exact ⟨0, by omega, rfl, by rw [endsM_zero]; rfl, Below.refl _ _⟩
      case round =>
        obtain ⟨j, hj, rfl, rfl, hbel⟩ := hrel
        have hsub : Sub h wr := (hs.alloc _).below hbel
        obtain ⟨c0, c1, c2⟩ := HC.out wr hsub
        obtain ⟨kc, kf⟩ := bcell hbel
        have kb := kc w.heap.size 0 (by simp)
        rw [new_cell0] at kb
        have HBel := Lib.hid hbel
        have hb0 := Lib.hid (below_chain hbel ((Below.refl w.heap.size w).alloc (Nat.le_refl _) _) (by simp))
        clear kc kf hbel
        have HX := Lib.hid (endsM_neg xs (k + 1) j)
        by_cases hja : j < x.ar.toNat
        · have hja' : (j : Int) < x.ar := by omega
          rcases endsM_bd xs (k + 1) j hlt with he | ⟨q, he, hq0, hq1⟩
          · have HE := Lib.hid (HX.out (by omega) x.ar.toNat (by omega))
            rw [he]
            go_wp2_with fail
            go_ret
            exact ⟨ret_n (by rw [HSt.out, HE.out]), hb0.out⟩
          · have HE := Lib.hid (endsM_succ xs (k + 1) j q he)
            rw [he]
            have ih := spec_l04End m wr h hsub _ xs HV.out HT.out hl q (by omega) hq1
            go_wp2_with (first | (go_at_call 74; refine ih.mono ?_; rintro e w2 ⟨rfl, hb2⟩))
            go_roundw
            case rel => exact ⟨j + 1, by omega, by go_num, by rw [HE.out], below_chain hb2 HBel.out HBel.out.size⟩
            case measure => simp [intOf]; omega
        · have hja' : ¬ (j : Int) < x.ar := by omega
          obtain rfl : j = x.ar.toNat := by omega
          go_wp2_with fail
          go_ret
          exact ⟨ret_n (by rw [HSt.out]), hb0.out⟩
    · have HE := Lib.hid (endM_end xs k (by omega))
      go_enter Try.func74, Try.ntmps74
      go_wp2
      go_ret
      exact ⟨ret_n (by rw [HE.out]), (by repeat (first | with_reducible exact Below.refl _ _ | with_reducible assumption | with_reducible refine Below.setCell ?_ ?_ _ | with_reducible refine Below.alloc ?_ ?_ _ | with_reducible refine Below.drew ?_ | (with_reducible apply below_chain; with_reducible assumption) | exact Nat.le_refl _ | omega | (simp <;> omega)))⟩
termination_by n => n
decreasing_by all_goals omega
end Go.Proofs.Ytmopjpnghomdfaa
