import Derived.Test.YthmedgipfdoneaaPatB
/- PatOk: the reference's text. -/
namespace Go.Proofs.Ythmedgipfdoneaa
set_option linter.unusedVariables false
set_option linter.unusedSimpArgs false
open Go.RowKit
def dupB (y x : DPNode) : Bool := (x.kind == 2) && ((y.kind == 2) && decide (y.s = x.s))
def goodAt (xs : List DPNode) (i : Nat) (h : i < xs.length) : Bool := pnodeM xs xs[i] && (xs.take i).all fun y => !dupB y xs[i]
def patM (xs : List DPNode) : Bool := decide (1 ≤ xs.length) && decide (xs.length ≤ 600) && (List.finRange xs.length).all (fun i => goodAt xs i.1 i.2) && orderM (kidsP xs)
theorem fin_all {n : Nat} {p : Fin n → Bool} : (List.finRange n).all p = true ↔ ∀ i, p i = true := by simp [List.all_eq_true]
theorem patM_bad {xs : List DPNode} {k : Nat} (h : k < xs.length) (hb : goodAt xs k h = false) : patM xs = false := by
  have : (List.finRange xs.length).all (fun i => goodAt xs i.1 i.2) = false := by
    rw [List.all_eq_false]
    exact ⟨⟨k, h⟩, List.mem_finRange _, by simp [hb]⟩
  unfold patM
  rw [this, Bool.and_false, Bool.false_and]
theorem good_false1 {xs : List DPNode} {k : Nat} (h : k < xs.length) (hb : pnodeM xs xs[k] = false) : goodAt xs k h = false := by unfold goodAt; rw [hb]; rfl
theorem good_false2 {xs : List DPNode} {k j : Nat} (h : k < xs.length) (hj : j < k) (hb : dupB (xs[j]'(by omega)) xs[k] = true) : goodAt xs k h = false := by
  unfold goodAt
  have : ((xs.take k).all fun y => !dupB y xs[k]) = false := by
    rw [List.all_eq_false]
    refine ⟨xs[j]'(by omega), ?_, by rw [hb]; simp⟩
    rw [List.mem_take_iff_getElem]
    exact ⟨j, by omega, rfl⟩
  rw [this, Bool.and_false]
theorem good_true {xs : List DPNode} {k : Nat} (h : k < xs.length) (hb : pnodeM xs xs[k] = true) (hd : ∀ j (hj : j < k), dupB (xs[j]'(by omega)) xs[k] = false) : goodAt xs k h = true := by
  unfold goodAt
  rw [hb, Bool.true_and, List.all_eq_true]
  intro y hy
  rw [List.mem_take_iff_getElem] at hy
  obtain ⟨j, hj, rfl⟩ := hy
  rw [hd j (by omega)]; rfl
theorem good_upto {xs : List DPNode} {k : Nat} (h : ∀ j (hj : j < xs.length), j < k → goodAt xs j hj = true) (hlt : k < xs.length) (hk : goodAt xs k hlt = true) : ∀ j (hj : j < xs.length), j < k + 1 → goodAt xs j hj = true := fun j hj hjk => by
  rcases Nat.lt_or_ge j k with q | q
  · exact h j hj q
  · obtain rfl : j = k := by omega
    exact hk
theorem new_cellN (w : World) (cs : Array Value) (t : TypeId) (i : Nat) : (w.alloc (.cells cs t)).cell? ⟨w.heap.size, i, none⟩ = cs[i]? := by
  have : (w.alloc (.cells cs t)).heap[w.heap.size]? = some (.cells cs t) := by show (w.heap.push _)[w.heap.size]? = _; simp
  simp only [World.cell?, this]
  rw [if_neg (by simp)]
set_option maxRecDepth 100000 in
set_option maxHeartbeats 8000000 in
theorem spec_PatOk (w : World) (h : Hp) (hs : Sub h w) (v : Value) (xs : List DPNode) (hv : DPNodeS h v xs) (hl : xs.length ≤ 1000000000) (hks : ∀ k (h : k < xs.length), xs[k].kids.length ≤ 1000000000) :
    Calls Try.prog 53 #[.agg #[v]] w fun e w' => e = .returned (.bool (patM xs)) ∧ Below w.heap.size w w' := by
  have hm := Lib.hid hv.mem
  have HV := Lib.hid hv
  have KS := Lib.hid hks
  clear hks
  obtain ⟨a, c, rfl, hc1, hc2, -⟩ := hv
  unfold maxLen at hc2
  by_cases h600 : 1 ≤ xs.length ∧ xs.length ≤ 600
  · obtain ⟨h6, h7⟩ := h600
    obtain ⟨bq, hbq⟩ : ∃ b, patM xs = b := ⟨_, rfl⟩
    have HB := Lib.hid (show ∀ k (h : k < xs.length), goodAt xs k h = false → bq = false from fun k h hb => hbq.symm.trans (patM_bad h hb))
    have HG := Lib.hid (show (∀ k (h : k < xs.length), goodAt xs k h = true) → bq = orderM (kidsP xs) from fun hh => by
      rw [← hbq]
      unfold patM
      have : (List.finRange xs.length).all (fun i => goodAt xs i.1 i.2) = true := fin_all.2 fun i => hh i.1 i.2
      rw [this, decide_eq_true h6, decide_eq_true h7]; rfl)
    rw [hbq]
    clear hbq
    have i6 : ¬ (xs.length : Int) < 1 := by omega
    have i7 : ¬ (600 : Int) < xs.length := by omega
    go_enter Try.func53, Try.ntmps53
    go_wp2_with fail
    go_loopw [19] (fun i wr => ∃ (k : Nat), k ≤ xs.length ∧ i = .int .i64 k ∧ (∀ j (h : j < xs.length), j < k → goodAt xs j h = true) ∧ Below (w.alloc (.cells #[.slice a xs.length c] 87)).heap.size (w.alloc (.cells #[.slice a xs.length c] 87)) wr) (fun i _ => xs.length - (intOf i).toNat)
    case atStart => exact ⟨0, by omega, rfl, fun _ _ hj => absurd hj (by omega), Below.refl _ _⟩
    case round =>
      obtain ⟨k, hk, rfl, hall, hbel⟩ := hrel
      have hsub : Sub h wr := (hs.alloc _).below hbel
      obtain ⟨kc, kf⟩ := bcell hbel
      have kb := kc w.heap.size 0 (by simp)
      rw [new_cell0] at kb
      have hsz : w.heap.size < wr.heap.size := World.block_lt_of_cell? _ _ kb
      have HBel := Lib.hid hbel
      have hb0 := Lib.hid (below_chain hbel ((Below.refl w.heap.size w).alloc (Nat.le_refl _) _) (by simp))
      have HAll := Lib.hid hall
      clear kc kf hbel hall
      by_cases hlt : k < xs.length
      · obtain ⟨bl, off, rfl, hcell⟩ := HV.out.cell hlt
        obtain ⟨v1, hrel, hcs⟩ := hcell k hlt
        obtain ⟨c0, c1, c2, c3⟩ := hcs wr hsub
        have hx := Lib.hid (hm.out _ (List.getElem_mem hlt))
        have hrel' : IntS h v1 xs[k].kids := hrel
        obtain ⟨a1, d1, rfl, -⟩ := id hrel'
        have HR := Lib.hid hrel'
        have HC := Lib.hid hcell
        have KN := Lib.hid (fun (w : World) (hs : Sub h w) => spec_l04PNode w h hs _ xs HV.out hl xs[k] hx.out _ HR.out (KS.out k hlt))
        clear hrel hcs hcell hrel'
        cases hp : pnodeM xs xs[k]
        · have HP := Lib.hid hp
          clear hp
          have HF := Lib.hid (HB.out k hlt (good_false1 hlt HP.out))
          go_wp2_with fail
          refine (KN.out _ (hsub.alloc _)).mono ?_
          rw [HP.out]
          rintro e w2 ⟨rfl, hb2⟩
          go_wp2_with fail
          go_ret
          exact ⟨ret_b HF.out.symm, below_chain hb2 (hb0.out.alloc hb0.out.size _) (hb0.out.alloc hb0.out.size _).size⟩
        · have HP := Lib.hid hp
          clear hp
          go_wp2_with fail
          refine (KN.out _ (hsub.alloc _)).mono ?_
          rw [HP.out]
          rintro e w2 ⟨rfl, hb2⟩
          have s2 := (hsub.alloc _).below hb2
          have kb2 := cell_kept hb2 (cell_kept ((Below.refl _ _).alloc (Nat.le_refl _) _) kb)
          have HBx := Lib.hid (below_chain hb2 (HBel.out.alloc HBel.out.size _) (HBel.out.alloc HBel.out.size _).size)
          have HB0 := Lib.hid (below_chain hb2 (hb0.out.alloc hb0.out.size _) (hb0.out.alloc hb0.out.size _).size)
          have q0 : w2.cell? ⟨wr.heap.size, 0, none⟩ = some (.int .i64 xs[k].kind) := cell_kept hb2 ((new_cellN wr #[.int .i64 xs[k].kind, .int .i64 xs[k].n, .string xs[k].s, .slice a1 xs[k].kids.length d1] 135 0).trans rfl)
          have q2 : w2.cell? ⟨wr.heap.size, 2, none⟩ = some (.string xs[k].s) := cell_kept hb2 ((new_cellN wr #[.int .i64 xs[k].kind, .int .i64 xs[k].n, .string xs[k].s, .slice a1 xs[k].kids.length d1] 135 2).trans rfl)
          have hsx : w.heap.size < w2.heap.size := World.block_lt_of_cell? _ _ kb2
          clear hb2 c0 c1 c2 c3 kb
          go_wp2_with fail
          go_loopw [5] (fun jv wx => ∃ (j nq : Nat), j ≤ k ∧ jv = .int .i64 j ∧ (∀ i (hi : i < j) (h : i < xs.length), dupB xs[i] xs[k] = false) ∧ wx = w2.drewN nq) (fun jv _ => k - (intOf jv).toNat)
          case atStart => exact ⟨0, 0, by omega, rfl, fun _ hj => absurd hj (by omega), rfl⟩
          case round =>
            obtain ⟨j, nq, hjk, rfl, hnd, rfl⟩ := hrel
            have HND := Lib.hid hnd
            clear hnd
            by_cases hj : j < k
            · have hjl : j < xs.length := by omega
              obtain ⟨v2, -, hcs2⟩ := HC.out j hjl
              obtain ⟨e0, -, e2, -⟩ := hcs2 w2 s2
              clear hcs2
              cases hk2 : (xs[k].kind == 2)
              · have HD := Lib.hid (show dupB xs[j] xs[k] = false by unfold dupB; rw [hk2]; rfl)
                go_wp2_with fail
                go_quiet (fail)
                go_wp2_with fail
                refine ⟨⟨j + 1, _, by omega, by go_num, fun i hi h => ?_, (by first | exact rfl | exact World.drewN_drewN ..)⟩, by simp [intOf]; omega⟩
                rcases Nat.lt_or_ge i j with q | q
                · exact HND.out i q h
                · obtain rfl : i = j := by omega
                  exact HD.out
              · cases hj2 : (xs[j].kind == 2)
                · have HD := Lib.hid (show dupB xs[j] xs[k] = false by unfold dupB; rw [hk2, hj2]; rfl)
                  go_wp2_with fail
                  go_quiet (fail)
                  go_wp2_with fail
                  refine ⟨⟨j + 1, _, by omega, by go_num, fun i hi h => ?_, (by first | exact rfl | exact World.drewN_drewN ..)⟩, by simp [intOf]; omega⟩
                  rcases Nat.lt_or_ge i j with q | q
                  · exact HND.out i q h
                  · obtain rfl : i = j := by omega
                    exact HD.out
                · by_cases hss : xs[j].s = xs[k].s
                  · have HD := Lib.hid (show dupB xs[j] xs[k] = true by unfold dupB; rw [hk2, hj2, decide_eq_true hss]; rfl)
                    have HF := Lib.hid (HB.out k hlt (good_false2 hlt hj HD.out))
                    rw [hss] at e2
                    clear hss
                    go_wp2_with fail
                    go_quiet (fail)
                    go_wp2_with fail
                    go_ret
                    exact ⟨ret_b HF.out.symm, (by repeat (first | exact HB0.out | refine below_drewI ?_ _))⟩
                  · have HD := Lib.hid (show dupB xs[j] xs[k] = false by unfold dupB; rw [decide_eq_false hss]; simp)
                    have hsl : (xs[j].s.toList == xs[k].s.toList) = false := by rw [str_beq]; simpa using hss
                    go_wp2_with fail
                    go_quiet (fail)
                    go_wp2_with fail
                    refine ⟨⟨j + 1, _, by omega, by go_num, fun i hi h => ?_, (by first | exact rfl | exact World.drewN_drewN ..)⟩, by simp [intOf]; omega⟩
                    rcases Nat.lt_or_ge i j with q | q
                    · exact HND.out i q h
                    · obtain rfl : i = j := by omega
                      exact HD.out
            · have HGd := Lib.hid (good_upto HAll.out hlt (good_true hlt HP.out (fun i hi => HND.out i (by omega) (by omega))))
              go_wp2_with fail
              exact ⟨⟨k + 1, by omega, by go_num, HGd.out, (by repeat (first | exact HBx.out | refine below_drewI ?_ _))⟩, by simp [intOf]; omega⟩
      · obtain rfl : k = xs.length := by omega
        have HGG := Lib.hid (HG.out (fun j hj => HAll.out j hj hj))
        have HEnd := Lib.hid (fun (w : World) (hs : Sub h w) => spec_l04PEnd xs.length w h hs _ xs HV.out hl KS.out 0 (by omega) (by omega))
        have HZ := Lib.hid (endZ_len (pEnd (kidsP xs) xs.length 0) xs.length)
        go_wp2_with fail
        (first | go_region_law (first | (refine step_guard rfl ?_; go_simp; go_at_call 98; refine (HEnd.out _ (by first | with_reducible exact hsub.drew | with_reducible exact hsub)).mono ?_; rintro e w2 ⟨rfl, hb2⟩; dsimp only; replace hb2 := below_undrew hb2; have kb2 := cell_kept hb2 kb)) | fail)
        all_goals
          go_wp2_with fail
          go_ret
          exact ⟨ret_b (by rw [HGG.out]; unfold orderM; rw [kidsP_len]; exact HZ.out), below_chain hb2 hb0.out hb0.out.size⟩
  · have hm0 : patM xs = false := by
      unfold patM
      by_cases q : 1 ≤ xs.length
      · rw [decide_eq_false (p := xs.length ≤ 600) (fun q2 => h600 ⟨q, q2⟩)]; simp
      · rw [decide_eq_false q]; simp
    rw [hm0]
    rcases (show xs.length = 0 ∨ 600 < xs.length by omega) with q | q
    all_goals
      clear hm0 h600
      have q' : (xs.length : Int) = 0 ∨ (600 : Int) < xs.length := by omega
      go_enter Try.func53, Try.ntmps53
      go_wp2_with fail
      all_goals
        go_ret
        exact ⟨rfl, (by repeat (first | with_reducible exact Below.refl _ _ | with_reducible assumption | with_reducible refine Below.setCell ?_ ?_ _ | with_reducible refine Below.alloc ?_ ?_ _ | with_reducible refine Below.drew ?_ | (with_reducible apply below_chain; with_reducible assumption) | exact Nat.le_refl _ | omega | (simp <;> omega)))⟩
end Go.Proofs.Ythmedgipfdoneaa

/- PatOk: the program's text. -/
namespace Go.Proofs.Ythmedgipfdoneaa
set_option linter.unusedVariables false
set_option linter.unusedSimpArgs false
open Go.RowKit
theorem pKids_inP (ks : List (List Int)) (n : Nat) : ∀ (l : List Int) (m e : Nat), pKids (pEnd ks n) l m = some e → ∀ z ∈ l, ∃ q : Nat, z = (q : Int) ∧ q < ks.length
  | [], m, e, h, z, hz => by cases hz
  | k :: l, m, e, h, z, hz => by
    rw [pKids_cons] at h
    cases hc : walkR ks n k m with
    | none => rw [hc] at h; cases h
    | some e1 =>
      rw [hc] at h
      have hb := walkR_bd hc
      rcases List.mem_cons.1 hz with rfl | hz
      · exact ⟨m, hb.1, by omega⟩
      · exact pKids_inP ks n l e1 e h z hz
theorem pEnd_inP (ks : List (List Int)) : ∀ (n m e : Nat), pEnd ks n m = some e → ∀ k (h : k < ks.length), m ≤ k → k < e → ∀ z ∈ ks[k], ∃ q : Nat, z = (q : Int) ∧ q < ks.length
  | 0, m, e, h => by cases h
  | n + 1, m, e, h => by
    intro k hk h1 h2 z hz
    have hm : m < ks.length := by
      rcases Nat.lt_or_ge m ks.length with q | q
      · exact q
      · rw [pEnd_out _ _ _ q] at h; cases h
    rw [pEnd_at _ _ _ hm] at h
    by_cases hkm : k = m
    · subst hkm
      exact pKids_inP ks n _ _ _ h z hz
    · have key : ∀ (l : List Int) (m e : Nat), pKids (pEnd ks n) l m = some e → m ≤ k → k < e → ∃ q : Nat, z = (q : Int) ∧ q < ks.length := by
        intro l
        induction l with
        | nil =>
          intro m e h a b
          have h' : some m = some e := h
          injection h' with h'; omega
        | cons k0 l ih =>
          intro m e h a b
          rw [pKids_cons] at h
          cases hc : walkR ks n k0 m with
          | none => rw [hc] at h; cases h
          | some e1 =>
            rw [hc] at h
            have hb := walkR_bd hc
            by_cases hke : k < e1
            · unfold walkR at hc
              rw [if_pos hb.1] at hc
              exact pEnd_inP ks n m e1 hc k hk a hke z hz
            · exact ih e1 e h (by omega) b
      exact key _ _ _ h (by omega) h2
theorem order_inP {xs : List DPNode} (h : orderM (kidsP xs) = true) (k : Nat) (hk : k < xs.length) (h1 : xs[k].kids.length = 1) : ∃ q : Nat, xs[k].kids[0]'(by omega) = (q : Int) ∧ q < xs.length := by
  unfold orderM at h
  have he : pEnd (kidsP xs) (kidsP xs).length 0 = some (kidsP xs).length := by simpa using h
  have := pEnd_inP (kidsP xs) _ _ _ he k (by rw [kidsP_len]; exact hk) (Nat.zero_le _) (by rw [kidsP_len]; exact hk) (xs[k].kids[0]'(by omega)) (by rw [kidsP_at xs k hk]; exact List.getElem_mem _)
  rw [kidsP_len] at this
  exact this
theorem info_stringP : (Try.prog.info? 9).map (fun i => (i.zero, i.size, i.bytes)) = some (some (.string ByteArray.empty), 1, 16) := by kernel_rfl
/-- an owned slice of one-cell elements, as slices.Contains reads it. -/
theorem own_sl {w : World} {B : Nat} {e : TypeId} {v : Value} {vs : List Value} (h : Own w B e 1 v vs.length vs) : Sl (hp w) v vs := by
  obtain ⟨h1, ⟨rfl, h2⟩ | ⟨g, cap, cur, rfl, hg, hh, hc, hm, hs, ht⟩⟩ := h
  · have : vs = [] := by simpa using h2
    subst this
    exact ⟨none, 0, rfl, Nat.le_refl _, by decide, .inl rfl⟩
  · refine ⟨_, cap, rfl, hc, hm, .inr ⟨g, 0, rfl, cur, e, (0, 0), hh, fun i hi => ?_⟩⟩
    have hht := congrArg (fun l => l[i]?) ht
    simp only [Nat.mul_one] at hht
    rw [List.getElem?_take_of_lt hi] at hht
    rw [Nat.zero_add, ← Array.getElem?_toList]
    exact hht
/-- the names so far. -/
def NamesAt (xs : List DPNode) (k : Nat) (ns : List ByteArray) : Prop := ns.length ≤ k ∧ ∀ s, s ∈ ns ↔ ∃ j, ∃ h : j < xs.length, j < k ∧ xs[j].kind = 2 ∧ xs[j].s = s
theorem NamesAt.zero (xs : List DPNode) : NamesAt xs 0 [] := ⟨Nat.le_refl _, fun s => ⟨fun h => (by cases h), fun ⟨j, _, hj, _⟩ => (by omega)⟩⟩
theorem NamesAt.skip {xs : List DPNode} {k : Nat} {ns : List ByteArray} (h : NamesAt xs k ns) (hk : k < xs.length) (h2 : xs[k].kind ≠ 2) : NamesAt xs (k + 1) ns := by
  refine ⟨by have := h.1; omega, fun s => ?_⟩
  rw [h.2 s]
  constructor
  · rintro ⟨j, hj, a, b⟩
    exact ⟨j, hj, by omega, b⟩
  · rintro ⟨j, hj, a, b, c⟩
    refine ⟨j, hj, ?_, b, c⟩
    rcases Nat.lt_or_ge j k with q | q
    · exact q
    · obtain rfl : j = k := by omega
      exact absurd b h2
theorem NamesAt.add {xs : List DPNode} {k : Nat} {ns : List ByteArray} (h : NamesAt xs k ns) (hk : k < xs.length) (h2 : xs[k].kind = 2) : NamesAt xs (k + 1) (ns ++ [xs[k].s]) := by
  refine ⟨by have := h.1; simp; omega, fun s => ?_⟩
  rw [List.mem_append, h.2 s, List.mem_singleton]
  constructor
  · rintro (⟨j, hj, a, b⟩ | rfl)
    · exact ⟨j, hj, by omega, b⟩
    · exact ⟨k, hk, by omega, h2, rfl⟩
  · rintro ⟨j, hj, a, b, c⟩
    rcases Nat.lt_or_ge j k with q | q
    · exact .inl ⟨j, hj, q, b, c⟩
    · obtain rfl : j = k := by omega
      exact .inr c.symm
theorem NamesAt.dup {xs : List DPNode} {k : Nat} {ns : List ByteArray} (h : NamesAt xs k ns) (hk : k < xs.length) (h2 : xs[k].kind = 2) (hi : inL xs[k].s ns = true) : goodAt xs k hk = false := by
  obtain ⟨j, hj, a, b, c⟩ := (h.2 _).1 ((inL_iff _ _).1 hi)
  exact good_false2 hk a (by unfold dupB; rw [h2, b, decide_eq_true c]; rfl)
theorem NamesAt.none {xs : List DPNode} {k : Nat} {ns : List ByteArray} (h : NamesAt xs k ns) (hk : k < xs.length) (hp : pnodeM xs xs[k] = true) (hi : xs[k].kind = 2 → inL xs[k].s ns = false) : goodAt xs k hk = true := by
  refine good_true hk hp fun j hj => ?_
  unfold dupB
  by_cases h2 : xs[k].kind = 2
  · have hn := hi h2
    by_cases hj2 : (xs[j]'(by omega)).kind = 2
    · by_cases hs : (xs[j]'(by omega)).s = xs[k].s
      · have : inL xs[k].s ns = true := (inL_iff _ _).2 ((h.2 _).2 ⟨j, by omega, hj, hj2, hs⟩)
        rw [this] at hn; cases hn
      · rw [decide_eq_false hs]; simp
    · simp [hj2]
  · simp [h2]
set_option maxRecDepth 100000 in
set_option maxHeartbeats 4000000 in
theorem impl_PatOk (w : World) (h : Hp) (hs : Sub h w) (v : Value) (xs : List DPNode) (hv : DPNodeS h v xs) (hl : xs.length ≤ 1000000000) (hks : ∀ k (h : k < xs.length), xs[k].kids.length ≤ 1000000000) :
    Calls Try.prog 48 #[.agg #[v]] w fun e w' => e = .returned (.bool (patM xs)) ∧ Below w.heap.size w w' := by
  have hm := Lib.hid hv.mem
  have HV := Lib.hid hv
  obtain ⟨a, c, rfl, hc1, hc2, -⟩ := hv
  unfold maxLen at hc2
  have hbox := new_cell0 w (.slice a xs.length c) 87
  have hsub0 : Sub h (w.alloc (.cells #[.slice a xs.length c] 87)) := hs.alloc _
  have KO := Lib.hid (pat_inOrder (w.alloc (.cells #[.slice a xs.length c] 87)) _ xs (HV.out.mono hsub0.hle) hl hks w.heap.size hbox)
  by_cases h600 : 1 ≤ xs.length ∧ xs.length ≤ 600
  · obtain ⟨h6, h7⟩ := h600
    have i6 : (1 : Int) ≤ xs.length := by omega
    have i7 : (xs.length : Int) ≤ 600 := by omega
    obtain ⟨bq, hbq⟩ : ∃ b, patM xs = b := ⟨_, rfl⟩
    have HB := Lib.hid (show ∀ k (h : k < xs.length), goodAt xs k h = false → bq = false from fun k h hb => hbq.symm.trans (patM_bad h hb))
    have HG := Lib.hid (show (∀ k (h : k < xs.length), goodAt xs k h = true) → bq = orderM (kidsP xs) from fun hh => by
      rw [← hbq]
      unfold patM
      have : (List.finRange xs.length).all (fun i => goodAt xs i.1 i.2) = true := fin_all.2 fun i => hh i.1 i.2
      rw [this, decide_eq_true h6, decide_eq_true h7]; rfl)
    have HN := Lib.hid (show orderM (kidsP xs) = false → bq = false from fun ho => by rw [← hbq]; unfold patM; rw [ho, Bool.and_false])
    rw [hbq]
    clear hbq
    cases ho : orderM (kidsP xs)
    · have HO := Lib.hid ho
      have HF := Lib.hid (HN.out ho)
      clear ho hbox
      go_enter Try.func48, Try.ntmps48
      go_wp2_with (first | (go_at_call 60; refine (impl_within _ _ _ _).mono ?_; rintro e w' ⟨rfl, rfl⟩))
      refine KO.out.mono ?_
      rw [HO.out]
      rintro e w1 ⟨rfl, hb1⟩
      go_wp2_with fail
      go_ret
      exact ⟨ret_b HF.out.symm, (by repeat (first | with_reducible exact Below.refl _ _ | with_reducible assumption | with_reducible refine Below.setCell ?_ ?_ _ | with_reducible refine Below.alloc ?_ ?_ _ | with_reducible refine Below.drew ?_ | (with_reducible apply below_chain; with_reducible assumption) | exact Nat.le_refl _ | omega | (simp <;> omega)))⟩
    · have HO := Lib.hid ho
      have HBox := Lib.hid hbox
      have KS := Lib.hid hks
      clear ho hbox hks
      go_enter Try.func48, Try.ntmps48
      go_wp2_with (first | (go_at_call 60; refine (impl_within _ _ _ _).mono ?_; rintro e w' ⟨rfl, rfl⟩))
      refine KO.out.mono ?_
      rw [HO.out]
      rintro e w1 ⟨rfl, hb1⟩
      have kb := cell_kept hb1 HBox.out
      have s1 := hsub0.below hb1
      have b1 : Below w.heap.size w w1 := below_chain hb1 ((Below.refl w.heap.size w).alloc (Nat.le_refl _) _) (by simp)
      have hsz1 : w.heap.size < w1.heap.size := World.block_lt_of_cell? _ _ kb
      clear hb1
      go_wp2_with fail
      have own0 := Lib.hid (own_made w1 w1.heap.size (Nat.le_refl _) 9 1 0 [] rfl (by decide))
      go_loopw [3, 23] (fun nm i wr => ∃ (k : Nat) (ns : List ByteArray), k ≤ xs.length ∧ i = .int .i64 k ∧ NamesAt xs k ns ∧ Own wr w1.heap.size 9 1 nm ns.length (ns.map Value.string) ∧ (∀ j (h : j < xs.length), j < k → goodAt xs j h = true) ∧ Below w1.heap.size w1 wr) (fun _ i _ => xs.length - (intOf i).toNat)
      case atStart => exact ⟨0, [], by omega, rfl, NamesAt.zero xs, own0.out, fun _ _ hj => absurd hj (by omega), (Below.refl _ _).alloc (Nat.le_refl _) _⟩
      case round =>
        obtain ⟨k, ns, hk, rfl, hna, hown, hall, hbel⟩ := hrel
        have hsub : Sub h wr := s1.below hbel
        have kbr := cell_kept hbel kb
        have hsz : w.heap.size < wr.heap.size := World.block_lt_of_cell? _ _ kbr
        have hb0 := Lib.hid (below_chain hbel b1 b1.size)
        have HNA := Lib.hid hna
        have HAll := Lib.hid hall
        have HBel := Lib.hid hbel
        have hnl := hna.1
        obtain ⟨na, nc, rfl, hnc1, hnc2⟩ := own_len hown
        unfold maxLen at hnc2
        have HO1 := Lib.hid hown
        have hgz := hbel.size
        clear hna hall hown hbel
        by_cases hlt : k < xs.length
        · obtain ⟨bl, off, rfl, hcell⟩ := HV.out.cell hlt
          obtain ⟨v1, hrel, hcs⟩ := hcell k hlt
          obtain ⟨c0, c1, c2, c3⟩ := hcs wr hsub
          have hx := Lib.hid (hm.out _ (List.getElem_mem hlt))
          have hrel' : IntS h v1 xs[k].kids := hrel
          obtain ⟨a1, d1, rfl, -⟩ := id hrel'
          have HR := Lib.hid hrel'
          have KN := Lib.hid (fun (w : World) (hs : Sub h w) => impl_patNodeOk w h hs _ xs HV.out hl xs[k] hx.out _ HR.out (KS.out k hlt) (fun h1 => order_inP HO.out k hlt h1))
          clear hrel hcs hcell hrel'
          cases hp : pnodeM xs xs[k]
          · have HP := Lib.hid hp
            clear hp
            have HF := Lib.hid (HB.out k hlt (good_false1 hlt HP.out))
            go_wp2_with fail
            refine (KN.out _ (hsub.alloc _)).mono ?_
            rw [HP.out]
            rintro e w2 ⟨rfl, hb2⟩
            go_wp2_with fail
            go_ret
            exact ⟨ret_b HF.out.symm, below_chain hb2 (hb0.out.alloc hb0.out.size _) (hb0.out.alloc hb0.out.size _).size⟩
          · have HP := Lib.hid hp
            clear hp
            go_wp2_with fail
            refine (KN.out _ (hsub.alloc _)).mono ?_
            rw [HP.out]
            rintro e w2 ⟨rfl, hb2⟩
            have q0 : w2.cell? ⟨wr.heap.size, 0, none⟩ = some (.int .i64 xs[k].kind) := cell_kept hb2 ((new_cellN wr #[.int .i64 xs[k].kind, .int .i64 xs[k].n, .string xs[k].s, .slice a1 xs[k].kids.length d1] 135 0).trans rfl)
            have q2 : w2.cell? ⟨wr.heap.size, 2, none⟩ = some (.string xs[k].s) := cell_kept hb2 ((new_cellN wr #[.int .i64 xs[k].kind, .int .i64 xs[k].n, .string xs[k].s, .slice a1 xs[k].kids.length d1] 135 2).trans rfl)
            have HO2 := Lib.hid (own_kept (World.ownsRow.alloc HO1.out _) hb2 (Nat.le_refl _))
            have HBx := Lib.hid (below_chain hb2 (HBel.out.alloc HBel.out.size _) (HBel.out.alloc HBel.out.size _).size)
            have HB0 := Lib.hid (below_chain hb2 (hb0.out.alloc hb0.out.size _) (hb0.out.alloc hb0.out.size _).size)
            have hz2 := HBx.out.size
            have SLC := Lib.hid (slices_Contains_string_string_ w2 (hp w2) (Sub.self _) _ ns xs[k].s (own_sl (by simpa using HO2.out)))
            clear hb2 c0 c1 c2 c3
            by_cases h2 : xs[k].kind = 2
            · have hk2 : (xs[k].kind == 2) = true := by simpa using h2
              cases hi : inL xs[k].s ns
              · have HI := Lib.hid hi
                have HGd := Lib.hid (good_upto HAll.out hlt (HNA.out.none hlt HP.out (fun _ => HI.out)))
                have HNs := Lib.hid (HNA.out.add hlt h2)
                clear hi
                go_wp2_with (first | (go_at_call 89; refine SLC.out.mono ?_; rw [HI.out]; rintro e w3 ⟨rfl, rfl⟩) | (at_builtin; refine app_lit (k := 1) (z := .string ByteArray.empty) (bytes := 16) Try.underlying99 info_stringP rfl Nat.one_pos w2 rfl _ _ rfl w1.heap.size (.slice na ns.length nc) ns.length (ns.map Value.string) rfl HO2.out 1 [.string xs[k].s] rfl [.string xs[k].s] rfl rfl ?_ ?_ ?_ ?_ ?_))
                · intro u hu
                  obtain rfl : u = .string xs[k].s := by simpa using hu
                  rfl
                · unfold maxLen; omega
                · omega
                · exact hz2
                · intro v' w' hown' hb'
                  have HW' := Lib.hid hown'
                  clear hown'
                  go_wp2_with fail
                  exact ⟨⟨k + 1, ns ++ [xs[k].s], by omega, by go_num, HNs.out, by simpa using HW'.out, HGd.out, HBx.out.trans hb'⟩, by simp [intOf]; omega⟩
              · have HI := Lib.hid hi
                have HF := Lib.hid (HB.out k hlt (HNA.out.dup hlt h2 hi))
                clear hi
                go_wp2_with (first | (go_at_call 89; refine SLC.out.mono ?_; rw [HI.out]; rintro e w3 ⟨rfl, rfl⟩))
                go_ret
                exact ⟨ret_b HF.out.symm, HB0.out⟩
            · have hk2 : (xs[k].kind == 2) = false := by simpa using h2
              have HGd := Lib.hid (good_upto HAll.out hlt (HNA.out.none hlt HP.out (fun e => absurd e h2)))
              have HNs := Lib.hid (HNA.out.skip hlt h2)
              go_wp2_with fail
              exact ⟨⟨k + 1, ns, by omega, by go_num, HNs.out, HO2.out, HGd.out, HBx.out⟩, by simp [intOf]; omega⟩
        · obtain rfl : k = xs.length := by omega
          have HGG := Lib.hid ((HG.out (fun j hj => HAll.out j hj hj)).trans HO.out)
          go_wp2_with fail
          go_ret
          exact ⟨ret_b HGG.out.symm, hb0.out⟩
  · have hm0 : patM xs = false := by
      unfold patM
      by_cases q : 1 ≤ xs.length
      · rw [decide_eq_false (p := xs.length ≤ 600) (fun q2 => h600 ⟨q, q2⟩)]; simp
      · rw [decide_eq_false q]; simp
    rw [hm0]
    rcases (show xs.length = 0 ∨ 600 < xs.length by omega) with q | q
    · have q' : (xs.length : Int) = 0 := by omega
      clear hm0 h600 hbox KO
      go_enter Try.func48, Try.ntmps48
      go_wp2_with (first | (go_at_call 60; refine (impl_within _ _ _ _).mono ?_; rintro e w' ⟨rfl, rfl⟩))
      all_goals
        go_ret
        exact ⟨rfl, (by repeat (first | with_reducible exact Below.refl _ _ | with_reducible assumption | with_reducible refine Below.setCell ?_ ?_ _ | with_reducible refine Below.alloc ?_ ?_ _ | with_reducible refine Below.drew ?_ | (with_reducible apply below_chain; with_reducible assumption) | exact Nat.le_refl _ | omega | (simp <;> omega)))⟩
    · have q' : (600 : Int) < xs.length := by omega
      have q1 : (1 : Int) ≤ xs.length := by omega
      clear hm0 h600 hbox KO
      go_enter Try.func48, Try.ntmps48
      go_wp2_with (first | (go_at_call 60; refine (impl_within _ _ _ _).mono ?_; rintro e w' ⟨rfl, rfl⟩))
      all_goals
        go_ret
        exact ⟨rfl, (by repeat (first | with_reducible exact Below.refl _ _ | with_reducible assumption | with_reducible refine Below.setCell ?_ ?_ _ | with_reducible refine Below.alloc ?_ ?_ _ | with_reducible refine Below.drew ?_ | (with_reducible apply below_chain; with_reducible assumption) | exact Nat.le_refl _ | omega | (simp <;> omega)))⟩
end Go.Proofs.Ythmedgipfdoneaa
