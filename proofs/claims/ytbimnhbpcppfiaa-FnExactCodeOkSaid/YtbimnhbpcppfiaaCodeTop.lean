/- CodeOk: the program's text. -/
import Derived.Test.YtbimnhbpcppfiaaCodeInsC
import Derived.Test.YtbimnhbpcppfiaaImplPat
import Derived.Test.YtbimnhbpcppfiaaFidx
import Derived.Laws.EntriesVeiled
namespace Go.Proofs.Ytbimnhbpcppfiaa
set_option linter.unusedVariables false
set_option linter.unusedSimpArgs false
open Go.RowKit
set_option maxRecDepth 100000 in
set_option maxHeartbeats 2000000 in
theorem cpat_IndexFunc (w : World) (h : Hp) (hs : Sub h w) (v : Value) (xs : List (List DPNode)) (hv : DPatS h v xs) (hl : xs.length ≤ 1000000000)  (p : (List DPNode) → Bool)
    (hk : ∀ (wx : World), Sub h wx → Below w.heap.size w wx → ∀ k (hk : k < xs.length) (v1 : Value) (hr : patRel h xs[k] v1), Calls Try.prog 110 #[.agg #[v1]] wx fun e w' => e = .returned (.bool (p xs[k])) ∧ Below wx.heap.size wx w') :
    Calls Try.prog 180 #[v, (.func (.func 110) #[] #[])] w fun e w' => e = .returned (.int .i64 (fidx p xs)) ∧ Below w.heap.size w w' := by
  have HV := Lib.hid hv
  have HK := Lib.hid hk
  clear hk
  obtain ⟨a, c, rfl, hc1, hc2, -⟩ := hv
  unfold maxLen at hc2
  go_enter Try.func180, Try.ntmps180
  go_wp2_with fail
  go_loopw [5, 8] (fun q i wr => ∃ k : Nat, k ≤ xs.length ∧ i = .int .i64 k ∧ (∀ j (h : j < xs.length), j < k → p xs[j] = false) ∧ Below w.heap.size w wr) (fun _ i _ => xs.length - (intOf i).toNat)
  case atStart => exact ⟨0, by omega, rfl, fun _ _ hj => absurd hj (by omega), Below.refl _ _⟩
  case round =>
    obtain ⟨k, hk, rfl, hall, hbel⟩ := hrel
    have HAll := Lib.hid hall
    clear hall
    by_cases hlt : k < xs.length
    · obtain ⟨b, off, rfl, hcell⟩ := HV.out.cell hlt
      obtain ⟨v1, hrel, hcs⟩ := hcell k hlt
      have c0 := hcs wr (hs.below hbel)
      have KK := Lib.hid (HK.out wr (hs.below hbel) hbel k hlt v1 hrel)
      clear hcell hcs hrel
      cases hp : p xs[k]
      · have HP := Lib.hid hp
        clear hp
        go_wp2_with fail
        refine KK.out.mono ?_
        rw [HP.out]
        rintro e w1 ⟨rfl, hb1⟩
        go_wp2_with fail
        refine ⟨⟨k + 1, by omega, by go_num, fun j hj hjk => ?_, below_chain hb1 hbel hbel.size⟩, ?_⟩
        · rcases Nat.lt_or_ge j k with q | q
          · exact HAll.out j hj q
          · obtain rfl : j = k := by omega
            exact HP.out
        · simp [intOf]; omega
      · have HF := Lib.hid (fidx_at p xs k hlt hp HAll.out)
        have HP := Lib.hid hp
        clear hp
        go_wp2_with fail
        refine KK.out.mono ?_
        rw [HP.out]
        rintro e w1 ⟨rfl, hb1⟩
        go_wp2_with fail
        go_ret
        exact ⟨by rw [HF.out]; rfl, below_chain hb1 hbel hbel.size⟩
    · have HF := Lib.hid (fidx_no p xs (fun j hj => HAll.out j hj (by omega)))
      go_wp2_with fail
      go_ret
      exact ⟨by rw [HF.out]; rfl, hbel⟩
theorem cpat_ContainsFunc (w : World) (h : Hp) (hs : Sub h w) (v : Value) (xs : List (List DPNode)) (hv : DPatS h v xs) (hl : xs.length ≤ 1000000000)  (p : (List DPNode) → Bool)
    (hk : ∀ (wx : World), Sub h wx → Below w.heap.size w wx → ∀ k (hk : k < xs.length) (v1 : Value) (hr : patRel h xs[k] v1), Calls Try.prog 110 #[.agg #[v1]] wx fun e w' => e = .returned (.bool (p xs[k])) ∧ Below wx.heap.size wx w') :
    Calls Try.prog 109 #[v, (.func (.func 110) #[] #[])] w fun e w' => e = .returned (.bool (xs.any p)) ∧ Below w.heap.size w w' := by
  have K := Lib.hid (cpat_IndexFunc w h hs v xs hv hl  p hk)
  have HF := Lib.hid (fidx_any p xs)
  have hg := fidx_ge p xs
  generalize fidx p xs = r at K HF hg
  clear hk
  go_enter Try.func109, Try.ntmps109
  go_wp2_with fail
  refine K.out.mono ?_
  rintro e w1 ⟨rfl, hb1⟩
  go_wp2_with fail
  go_ret
  exact ⟨ret_b (by rw [← HF.out]), hb1⟩
set_option maxRecDepth 100000 in
set_option maxHeartbeats 2000000 in
theorem cins_IndexFunc (w : World) (h : Hp) (hs : Sub h w) (v : Value) (xs : List DIns) (hv : DInsS h v xs) (hl : xs.length ≤ 1000000000) (B : Nat) (p : DIns → Bool)
    (hk : ∀ (wx : World), Sub h wx → Below w.heap.size w wx → ∀ k (hk : k < xs.length), Calls Try.prog 112 #[.agg #[.int .i64 xs[k].op, .int .i64 xs[k].a, .int .i64 xs[k].b, .string xs[k].s], .pointer (some ⟨B, 0, none⟩)] wx fun e w' => e = .returned (.bool (p xs[k])) ∧ Below wx.heap.size wx w') :
    Calls Try.prog 181 #[v, (.func (.func 112) #[] #[.pointer (some ⟨B, 0, none⟩)])] w fun e w' => e = .returned (.int .i64 (fidx p xs)) ∧ Below w.heap.size w w' := by
  have HV := Lib.hid hv
  have HK := Lib.hid hk
  clear hk
  obtain ⟨a, c, rfl, hc1, hc2, -⟩ := hv
  unfold maxLen at hc2
  go_enter Try.func181, Try.ntmps181
  go_wp2_with fail
  go_loopw [5, 8] (fun q i wr => ∃ k : Nat, k ≤ xs.length ∧ i = .int .i64 k ∧ (∀ j (h : j < xs.length), j < k → p xs[j] = false) ∧ Below w.heap.size w wr) (fun _ i _ => xs.length - (intOf i).toNat)
  case atStart => exact ⟨0, by omega, rfl, fun _ _ hj => absurd hj (by omega), Below.refl _ _⟩
  case round =>
    obtain ⟨k, hk, rfl, hall, hbel⟩ := hrel
    have HAll := Lib.hid hall
    clear hall
    by_cases hlt : k < xs.length
    · obtain ⟨b, off, rfl, hcell⟩ := HV.out.cell hlt
      obtain ⟨c0, c1, c2, c3⟩ := hcell k hlt wr (hs.below hbel)
      have KK := Lib.hid (HK.out wr (hs.below hbel) hbel k hlt)
      clear hcell
      cases hp : p xs[k]
      · have HP := Lib.hid hp
        clear hp
        go_wp2_with fail
        refine KK.out.mono ?_
        rw [HP.out]
        rintro e w1 ⟨rfl, hb1⟩
        go_wp2_with fail
        refine ⟨⟨k + 1, by omega, by go_num, fun j hj hjk => ?_, below_chain hb1 hbel hbel.size⟩, ?_⟩
        · rcases Nat.lt_or_ge j k with q | q
          · exact HAll.out j hj q
          · obtain rfl : j = k := by omega
            exact HP.out
        · simp [intOf]; omega
      · have HF := Lib.hid (fidx_at p xs k hlt hp HAll.out)
        have HP := Lib.hid hp
        clear hp
        go_wp2_with fail
        refine KK.out.mono ?_
        rw [HP.out]
        rintro e w1 ⟨rfl, hb1⟩
        go_wp2_with fail
        go_ret
        exact ⟨by rw [HF.out]; rfl, below_chain hb1 hbel hbel.size⟩
    · have HF := Lib.hid (fidx_no p xs (fun j hj => HAll.out j hj (by omega)))
      go_wp2_with fail
      go_ret
      exact ⟨by rw [HF.out]; rfl, hbel⟩
theorem cins_ContainsFunc (w : World) (h : Hp) (hs : Sub h w) (v : Value) (xs : List DIns) (hv : DInsS h v xs) (hl : xs.length ≤ 1000000000) (B : Nat) (p : DIns → Bool)
    (hk : ∀ (wx : World), Sub h wx → Below w.heap.size w wx → ∀ k (hk : k < xs.length), Calls Try.prog 112 #[.agg #[.int .i64 xs[k].op, .int .i64 xs[k].a, .int .i64 xs[k].b, .string xs[k].s], .pointer (some ⟨B, 0, none⟩)] wx fun e w' => e = .returned (.bool (p xs[k])) ∧ Below wx.heap.size wx w') :
    Calls Try.prog 111 #[v, (.func (.func 112) #[] #[.pointer (some ⟨B, 0, none⟩)])] w fun e w' => e = .returned (.bool (xs.any p)) ∧ Below w.heap.size w w' := by
  have K := Lib.hid (cins_IndexFunc w h hs v xs hv hl B p hk)
  have HF := Lib.hid (fidx_any p xs)
  have hg := fidx_ge p xs
  generalize fidx p xs = r at K HF hg
  clear hk
  go_enter Try.func111, Try.ntmps111
  go_wp2_with fail
  refine K.out.mono ?_
  rintro e w1 ⟨rfl, hb1⟩
  go_wp2_with fail
  go_ret
  exact ⟨ret_b (by rw [← HF.out]), hb1⟩
theorem impl_CodeOk_1 (w : World) (h : Hp) (hs : Sub h w) (v : Value) (xs : List DPNode) (hv : DPNodeS h v xs) (hl : xs.length ≤ 1000000000) (hks : ∀ k (h : k < xs.length), xs[k].kids.length ≤ 1000000000) :
    Calls Try.prog 110 #[.agg #[v]] w fun e w' => e = .returned (.bool (!patM xs)) ∧ Below w.heap.size w w' := by
  have HK := Lib.hid (fun (w : World) (hs : Sub h w) => impl_PatOk w h hs v xs hv hl hks)
  clear hv hks
  cases hb : patM xs
  all_goals
    have HB := Lib.hid hb
    go_enter Try.func110, Try.ntmps110
    go_wp2_with fail
    refine (HK.out _ (hs.alloc _)).mono ?_
    rw [HB.out]
    rintro e w1 ⟨rfl, hb1⟩
    go_wp2_with fail
    go_ret
    exact ⟨rfl, (by repeat (first | with_reducible exact Below.refl _ _ | with_reducible assumption | with_reducible refine Below.setCell ?_ ?_ _ | with_reducible refine Below.alloc ?_ ?_ _ | with_reducible refine Below.drew ?_ | (with_reducible apply below_chain; with_reducible assumption) | exact Nat.le_refl _ | omega | (simp <;> omega)))⟩
theorem impl_CodeOk_2 (w : World) (a1 a2 : Option Addr) (n c1 m c2 : Nat) (hn : n ≤ 1000000000) (hm : m ≤ 1000000000) (x : DIns) (hx : insOk x) (B : Nat) (hB0 : w.cell? ⟨B, 0, none⟩ = some (.slice a1 n c1)) (hB1 : w.cell? ⟨B, 1, none⟩ = some (.slice a2 m c2)) :
    Calls Try.prog 112 #[.agg #[.int .i64 x.op, .int .i64 x.a, .int .i64 x.b, .string x.s], .pointer (some ⟨B, 0, none⟩)] w fun e w' => e = .returned (.bool (!insM n m x)) ∧ Below w.heap.size w w' := by
  have hlt : B < w.heap.size := World.block_lt_of_cell? _ _ hB0
  have HK := Lib.hid (fun (w : World) => impl_insOk w a1 a2 n c1 m c2 hn hm x hx)
  cases hb : insM n m x
  all_goals
    have HB := Lib.hid hb
    go_enter Try.func112, Try.ntmps112
    go_wp2_with fail
    refine (HK.out _).mono ?_
    rw [HB.out]
    rintro e w1 ⟨rfl, hb1⟩
    go_wp2_with fail
    go_ret
    exact ⟨rfl, (by repeat (first | with_reducible exact Below.refl _ _ | with_reducible assumption | with_reducible refine Below.setCell ?_ ?_ _ | with_reducible refine Below.alloc ?_ ?_ _ | with_reducible refine Below.drew ?_ | (with_reducible apply below_chain; with_reducible assumption) | exact Nat.le_refl _ | omega | (simp <;> omega)))⟩
/-- the answer of CodeOk. -/
def codeM (x : DCode) : Bool := decide (1 ≤ x.ins.length) && decide (x.ins.length ≤ 3000) && x.pats.all patM && x.ins.all (insM x.ins.length x.pats.length)
theorem any_not {α : Type} (p : α → Bool) (l : List α) : l.any (fun x => !p x) = !l.all p := by rw [List.not_all_eq_any_not]
/-- sizes that the walks want. -/
def codeFit (x : DCode) : Prop := x.ins.length ≤ 1000000000 ∧ x.pats.length ≤ 1000000000 ∧ ∀ k (h : k < x.pats.length), x.pats[k].length ≤ 1000000000 ∧ ∀ j (h2 : j < x.pats[k].length), x.pats[k][j].kids.length ≤ 1000000000
set_option maxRecDepth 100000 in
set_option maxHeartbeats 4000000 in
theorem impl_CodeOk (w : World) (h : Hp) (hs : Sub h w) (x : DCode) (v1 v2 : Value) (hv : codeRel h x v1 v2) (hf : codeFit x) :
    Calls Try.prog 44 #[.agg #[v1, v2]] w fun e w' => e = .returned (.bool (codeM x)) ∧ Below w.heap.size w w' := by
  obtain ⟨q1, q2⟩ := hv
  obtain ⟨f1, f2, f3⟩ := hf
  have hmi := Lib.hid (DInsS.mem q1)
  obtain ⟨a1, c1, rfl, -⟩ := id q1
  obtain ⟨a2, c2, rfl, -⟩ := id q2
  have HP := Lib.hid (fun (wx : World) (hsx : Sub h wx) => cpat_ContainsFunc wx h hsx _ x.pats q2 f2 (fun q => !patM q) (fun wy hsy _ k hk v1 hr => impl_CodeOk_1 wy h hsy v1 x.pats[k] hr (f3 k hk).1 (f3 k hk).2))
  have HI := Lib.hid (fun (wx : World) (hsx : Sub h wx) (B : Nat) (hB0 : wx.cell? ⟨B, 0, none⟩ = some (.slice a1 x.ins.length c1)) (hB1 : wx.cell? ⟨B, 1, none⟩ = some (.slice a2 x.pats.length c2)) =>
    cins_ContainsFunc wx h hsx _ x.ins q1 f1 B (fun i => !insM x.ins.length x.pats.length i) (fun wy hsy hb k hk => impl_CodeOk_2 wy a1 a2 _ c1 _ c2 f1 f2 x.ins[k] (hmi.out _ (List.getElem_mem hk)) B (cell_kept hb hB0) (cell_kept hb hB1)))
  rw [any_not] at HP HI
  clear q1 q2 f3
  obtain ⟨np, hnp⟩ : ∃ b, x.pats.all patM = b := ⟨_, rfl⟩
  obtain ⟨ni, hni⟩ : ∃ b, x.ins.all (insM x.ins.length x.pats.length) = b := ⟨_, rfl⟩
  have HM : codeM x = (decide (1 ≤ x.ins.length) && decide (x.ins.length ≤ 3000) && np && ni) := by unfold codeM; rw [hnp, hni]
  rw [HM]
  rw [hnp] at HP
  rw [hni] at HI
  clear HM hnp hni hmi
  by_cases h1 : 1 ≤ x.ins.length ∧ x.ins.length ≤ 3000
  · obtain ⟨h2, h3⟩ := h1
    have i2 : (1 : Int) ≤ x.ins.length := by omega
    have i3 : (x.ins.length : Int) ≤ 3000 := by omega
    have hR : (decide (1 ≤ x.ins.length) && decide (x.ins.length ≤ 3000) && np && ni) = (np && ni) := by rw [decide_eq_true h2, decide_eq_true h3]; simp
    rw [hR]
    clear hR
    cases np
    · go_enter Try.func44, Try.ntmps44
      go_wp2_with (first | (go_at_call 80; refine (impl_within _ _ _ _).mono ?_; rintro e w' ⟨rfl, rfl⟩))
      refine (HP.out _ (hs.alloc _)).mono ?_
      rintro e w1 ⟨rfl, hb1⟩
      go_wp2_with fail
      go_ret
      exact ⟨rfl, (by repeat (first | with_reducible exact Below.refl _ _ | with_reducible assumption | with_reducible refine Below.setCell ?_ ?_ _ | with_reducible refine Below.alloc ?_ ?_ _ | with_reducible refine Below.drew ?_ | (with_reducible apply below_chain; with_reducible assumption) | exact Nat.le_refl _ | omega | (simp <;> omega)))⟩
    · go_enter Try.func44, Try.ntmps44
      go_wp2_with (first | (go_at_call 80; refine (impl_within _ _ _ _).mono ?_; rintro e w' ⟨rfl, rfl⟩))
      refine (HP.out _ (hs.alloc _)).mono ?_
      rintro e w1 ⟨rfl, hb1⟩
      obtain ⟨kc1, kf1⟩ := bcell hb1; have kz1 := hb1.size; (try simp at kz1); (first | (refine (fun (kw1_0 : w.heap.size  < w1.heap.size) => ?_) ?_; rotate_left; omega) | skip); (first | (refine (fun (kw1_1 : w.heap.size + 1 < w1.heap.size) => ?_) ?_; rotate_left; omega) | skip); (first | (refine (fun (kw1_2 : w.heap.size + 1 + 1 < w1.heap.size) => ?_) ?_; rotate_left; omega) | skip)
      have s1 := (hs.alloc (.cells #[.slice a1 x.ins.length c1, .slice a2 x.pats.length c2] 73)).below hb1
      have d0 : w1.cell? ⟨w.heap.size, 0, none⟩ = some (.slice a1 x.ins.length c1) := by rw [kc1 _ _ (by simp)]; simp [new_cellN]
      have d1 : w1.cell? ⟨w.heap.size, 1, none⟩ = some (.slice a2 x.pats.length c2) := by rw [kc1 _ _ (by simp)]; simp [new_cellN]
      go_wp2_with fail
      refine (HI.out _ s1 w.heap.size d0 d1).mono ?_
      rintro e w2 ⟨rfl, hb2⟩
      obtain ⟨kc2, kf2⟩ := bcell hb2; have kz2 := hb2.size; (try simp at kz2); (first | (refine (fun (kw2_0 : w.heap.size  < w2.heap.size) => ?_) ?_; rotate_left; omega) | skip); (first | (refine (fun (kw2_1 : w.heap.size + 1 < w2.heap.size) => ?_) ?_; rotate_left; omega) | skip); (first | (refine (fun (kw2_2 : w.heap.size + 1 + 1 < w2.heap.size) => ?_) ?_; rotate_left; omega) | skip)
      go_wp2_with fail
      go_ret
      exact ⟨ret_b (by simp), (by repeat (first | with_reducible exact Below.refl _ _ | with_reducible assumption | with_reducible refine Below.setCell ?_ ?_ _ | with_reducible refine Below.alloc ?_ ?_ _ | with_reducible refine Below.drew ?_ | (with_reducible apply below_chain; with_reducible assumption) | exact Nat.le_refl _ | omega | (simp <;> omega)))⟩
  · have hR : (decide (1 ≤ x.ins.length) && decide (x.ins.length ≤ 3000) && np && ni) = false := by
      by_cases q : 1 ≤ x.ins.length
      · rw [decide_eq_false (p := x.ins.length ≤ 3000) (fun r => h1 ⟨q, r⟩)]; simp
      · rw [decide_eq_false q]; simp
    rw [hR]
    rcases (show x.ins.length = 0 ∨ 3000 < x.ins.length by omega) with q | q
    · have q' : (x.ins.length : Int) = 0 := by omega
      clear hR h1 HP HI
      go_enter Try.func44, Try.ntmps44
      go_wp2_with (first | (go_at_call 80; refine (impl_within _ _ _ _).mono ?_; rintro e w' ⟨rfl, rfl⟩))
      all_goals
        go_ret
        exact ⟨rfl, (by repeat (first | with_reducible exact Below.refl _ _ | with_reducible assumption | with_reducible refine Below.setCell ?_ ?_ _ | with_reducible refine Below.alloc ?_ ?_ _ | with_reducible refine Below.drew ?_ | (with_reducible apply below_chain; with_reducible assumption) | exact Nat.le_refl _ | omega | (simp <;> omega)))⟩
    · have q' : (3000 : Int) < x.ins.length := by omega
      have q1 : (1 : Int) ≤ x.ins.length := by omega
      clear hR h1 HP HI
      go_enter Try.func44, Try.ntmps44
      go_wp2_with (first | (go_at_call 80; refine (impl_within _ _ _ _).mono ?_; rintro e w' ⟨rfl, rfl⟩))
      all_goals
        go_ret
        exact ⟨rfl, (by repeat (first | with_reducible exact Below.refl _ _ | with_reducible assumption | with_reducible refine Below.setCell ?_ ?_ _ | with_reducible refine Below.alloc ?_ ?_ _ | with_reducible refine Below.drew ?_ | (with_reducible apply below_chain; with_reducible assumption) | exact Nat.le_refl _ | omega | (simp <;> omega)))⟩
end Go.Proofs.Ytbimnhbpcppfiaa
