/- TyCanon of the reference, whole. -/
import Derived.Test.YtbimnhbpcppfiaaCanonS
import Derived.Test.YtbimnhbpcppfiaaAt
namespace Go.Proofs.Ytbimnhbpcppfiaa
set_option linter.unusedVariables false
set_option linter.unusedSimpArgs false
open Go.RowKit
theorem tyCanonM_len (xs : List TyI) : (tyCanonM xs).length ≤ 1000000 := by
  unfold tyCanonM
  split
  · rename_i h
    rw [canonM_len]
    have := (tyOkM_pos h).2
    omega
  · simp
set_option maxRecDepth 100000 in
set_option maxHeartbeats 4000000 in
theorem spec_TyCanon (w : World) (h : Hp) (hs : Sub h w) (v : Value) (xs : List TyI) (hv : TyS h v xs) (hl : xs.length ≤ 100000000) :
    Calls Try.prog 18 #[.agg #[v]] w fun e w' => TyOutPost w (tyCanonM xs) e w' := by
  have hm := Lib.hid hv.mem
  have HV := Lib.hid hv
  obtain ⟨a, c, rfl, hc1, hc2, -⟩ := hv
  unfold maxLen at hc2
  obtain ⟨b, hb⟩ : ∃ b, tyOkM xs = b := ⟨_, rfl⟩
  have HT := Lib.hid (fun (wx : World) (hsx : Sub h wx) => spec_TyOk wx h hsx _ xs HV.out (by omega))
  rw [hb] at HT
  cases b
  · have HM := Lib.hid (show tyCanonM xs = [] by unfold tyCanonM; rw [hb]; rfl)
    clear hb
    rw [HM.out]
    go_enter Try.func18, Try.ntmps18
    go_wp2_with fail
    refine (HT.out _ ((hs.alloc _).alloc _)).mono ?_
    rintro e w1 ⟨rfl, hb1⟩
    obtain ⟨kc1, kf1⟩ := bcell hb1; have kz1 := hb1.size; (try simp at kz1); (first | (refine (fun (kw1_0 : w.heap.size  < w1.heap.size) => ?_) ?_; rotate_left; omega) | skip); (first | (refine (fun (kw1_1 : w.heap.size + 1 < w1.heap.size) => ?_) ?_; rotate_left; omega) | skip); (first | (refine (fun (kw1_2 : w.heap.size + 1 + 1 < w1.heap.size) => ?_) ?_; rotate_left; omega) | skip)
    go_wp2_with fail
    refine bodyPost_ret (v := .agg #[.slice none 0 0]) (by simp [results, Try.results18, go_sem, kc1]) rfl ⟨_, [], rfl, .inl ⟨rfl, rfl, none, 0, rfl, by decide⟩, List.nodup_nil, fun _ hb => (by cases hb), ?_⟩
    exact (by repeat (first | with_reducible exact Below.refl _ _ | with_reducible assumption | with_reducible refine Below.setCell ?_ ?_ _ | with_reducible refine Below.alloc ?_ ?_ _ | with_reducible refine Below.drew ?_ | (with_reducible apply below_chain; with_reducible assumption) | exact Nat.le_refl _ | omega | (simp <;> omega)))
  · have HM := Lib.hid (show tyCanonM xs = canonM xs by unfold tyCanonM; rw [hb]; rfl)
    have hpos := (tyOkM_pos hb).1
    clear hb
    rw [HM.out]
    go_enter Try.func18, Try.ntmps18
    go_wp2_with fail
    refine (HT.out _ ((hs.alloc _).alloc _)).mono ?_
    rintro e w1 ⟨rfl, hb1⟩
    obtain ⟨kc1, kf1⟩ := bcell hb1; have kz1 := hb1.size; (try simp at kz1); (first | (refine (fun (kw1_0 : w.heap.size  < w1.heap.size) => ?_) ?_; rotate_left; omega) | skip); (first | (refine (fun (kw1_1 : w.heap.size + 1 < w1.heap.size) => ?_) ?_; rotate_left; omega) | skip); (first | (refine (fun (kw1_2 : w.heap.size + 1 + 1 < w1.heap.size) => ?_) ?_; rotate_left; omega) | skip)
    have s1 := Sub.below ((hs.alloc _).alloc _) hb1
    go_wp2_with fail
    refine (spec_l05Canon _ h s1 _ xs HV.out hpos hl).mono ?_
    rintro e w2 ⟨v2, rfl, hown2, hb2⟩
    obtain ⟨kc2, kf2⟩ := bcell hb2; have kz2 := hb2.size; (try simp at kz2); (first | (refine (fun (kw2_0 : w.heap.size  < w2.heap.size) => ?_) ?_; rotate_left; omega) | skip); (first | (refine (fun (kw2_1 : w.heap.size + 1 < w2.heap.size) => ?_) ?_; rotate_left; omega) | skip); (first | (refine (fun (kw2_2 : w.heap.size + 1 + 1 < w2.heap.size) => ?_) ?_; rotate_left; omega) | skip)
    obtain ⟨a2, c2, rfl, -⟩ := own_len hown2
    have HX := Lib.hid (OwnX.leaf (canonM xs) TyI.cells TyI.ok (fun _ _ => rfl) (canonM_ok hm.out (by omega)) hown2)
    clear hown2
    go_wp2_with fail
    obtain ⟨bs, q1, q2, q3⟩ := HX.out
    refine bodyPost_ret (v := .agg #[.slice a2 (canonM xs).length c2]) (by simp [results, Try.results18, go_sem, kc1, kc2, kw1_0, kw1_1]) rfl ⟨_, bs, rfl, ?_, q2, ?_, ?_⟩
    · refine TyX.keep q1 fun b hb => ?_
      have hb2 := (q3 b hb).1
      rw [Below.heap_setCell _ _ _ _ (by show b ≠ w.heap.size + 1; omega)]
    · intro b hb
      have hb2 := q3 b hb
      simp
      omega
    · exact (by repeat (first | with_reducible exact Below.refl _ _ | with_reducible assumption | with_reducible refine Below.setCell ?_ ?_ _ | with_reducible refine Below.alloc ?_ ?_ _ | with_reducible refine Below.drew ?_ | (with_reducible apply below_chain; with_reducible assumption) | exact Nat.le_refl _ | omega | (simp <;> omega)))
end Go.Proofs.Ytbimnhbpcppfiaa
