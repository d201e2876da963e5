/- The canonical type: the program's text. -/
import Derived.Test.YtbimnhbpcppfiaaVarsW
import Derived.Laws.Cover3
namespace Go.Proofs.Ytbimnhbpcppfiaa
set_option linter.unusedVariables false
set_option linter.unusedSimpArgs false
open Go.RowKit
/-- the cells of a slice, one after another. -/
theorem SlOf.news {α : Type} {k : Nat} {R : Hp → List Value → α → Prop} {h : Hp} {ad : Addr} {n c : Nat} {xs : List α} (enc : α → List Value) (hR : ∀ r x, R h r x → r = enc x) (hk : ∀ x, (enc x).length = k) (q : SlOf k R h (.slice (some ad) n c) xs) {w : World} (hs : Sub h w) :
    ∀ j u, (xs.flatMap enc)[j]? = some u → w.cell? (ad.add j) = some u := by
  obtain ⟨a', c', e, _, _, r⟩ := q
  injection e with e1 e2 e3
  subst e1
  intro j u hj
  rcases r with rfl | ⟨b, off, ea, hc⟩
  · simp at hj
  · injection ea with ea
    subst ea
    have hlen : (xs.flatMap enc).length = xs.length * k := by
      rw [List.flatMap_def, flatten_len (xs.map enc) (fun r hr => by obtain ⟨y, _, rfl⟩ := List.mem_map.1 hr; exact hk y), List.length_map]
    have hjl : j < xs.length * k := by
      rcases Nat.lt_or_ge j (xs.length * k) with q | q
      · exact q
      · rw [List.getElem?_eq_none (by omega)] at hj; cases hj
    have hk0 : 0 < k := by
      rcases Nat.eq_zero_or_pos k with q | q
      · subst q; omega
      · exact q
    have hi : j / k < xs.length := (Nat.div_lt_iff_lt_mul hk0).2 hjl
    have hm : j % k < k := Nat.mod_lt _ hk0
    have he : j = (j / k) * k + j % k := by rw [Nat.mul_comm]; exact (Nat.div_add_mod j k).symm
    obtain ⟨r, hr1, hr2, hr3⟩ := hc (j / k) hi
    have hr4 := hR _ _ hr3
    rw [List.flatMap_def, he, flatten_at (k := k) (xs.map enc) (j / k) (j % k) (fun r hr => by obtain ⟨y, _, rfl⟩ := List.mem_map.1 hr; exact hk y) (by simpa using hi) hm, List.getElem_map, ← hr4] at hj
    have := hr2.cell hs (i := j % k) (by omega)
    rw [addr_add, he, ← Nat.add_assoc, this]
    rw [List.getElem?_eq_getElem (by omega)] at hj
    exact hj
theorem run_eql_nil {P : Program} (w : World) (t e : TypeId) (a : Option Addr) (l c : Nat) (h : P.underlying t = some (.slice e)) : (binOp .eql t (.slice a l c) (.slice none 0 0)).run P w = .ok (.bool a.isNone) w := by
  simp [binOp, run_equal_slice_nil w t e a l c h]
def clonePost (w : World) (xs : List TyI) (e : Ending) (w' : World) : Prop := ∃ v', e = .returned v' ∧ Own w' w.heap.size 58 3 v' xs.length (xs.flatMap TyI.cells) ∧ Below w.heap.size w w'
set_option maxRecDepth 100000 in
set_option maxHeartbeats 1000000 in
theorem slices_Clone_TyItem (w : World) (h : Hp) (hs : Sub h w) (v : Value) (xs : List TyI) (hv : TyS h v xs) (hne : 0 < xs.length) (hl : xs.length ≤ 1000000000) :
    Calls Try.prog 138 #[v] w fun e w' => clonePost w xs e w' := by
  have HV := Lib.hid hv
  obtain ⟨a, c, rfl, hc1, hc2, -⟩ := hv
  unfold maxLen at hc2
  obtain ⟨b, off, rfl, -⟩ := HV.out.cell hne
  have HN := Lib.hid (SlOf.news TyI.cells (fun _ _ q => q.1) (fun _ => rfl) HV.out (hs.alloc (.cells #[] 58)))
  have hlen : (xs.flatMap TyI.cells).length = xs.length * 3 := by
    rw [List.flatMap_def, flatten_len (k := 3) (xs.map TyI.cells) (fun r hr => by obtain ⟨y, _, rfl⟩ := List.mem_map.1 hr; rfl), List.length_map]
  have hone : ∀ u ∈ xs.flatMap TyI.cells, u.oneCell' = true := by
    intro u hu
    obtain ⟨x, _, hx⟩ := List.mem_flatMap.1 hu
    unfold TyI.cells at hx
    simp only [List.mem_cons, List.not_mem_nil, or_false] at hx
    rcases hx with rfl | rfl | rfl <;> rfl
  have HO := Lib.hid hone
  have HL := Lib.hid hlen
  have own0 := Lib.hid (own_made w w.heap.size (Nat.le_refl _) 58 3 0 [] rfl (by decide))
  clear hone hlen
  have hnil := run_eql_nil (P := Try.prog) w 26 58 (some ⟨b, off, none⟩) xs.length c Try.underlying26
  go_enter Try.func138, Try.ntmps138
  go_wp2_with (first | (at_builtin; refine app_at (k := 3) (bytes := 32) Try.underlying26 info_TyItem rfl (by decide) (w.alloc (.cells #[] 58)) rfl _ _ rfl w.heap.size (.slice (some ⟨w.heap.size, 0, none⟩) 0 0) 0 [] rfl own0.out ⟨b, off, none⟩ xs.length c (xs.flatMap TyI.cells) rfl HL.out HN.out HO.out ?_ ?_ ?_ ?_))
  · unfold maxLen; omega
  · omega
  · simp
  · intro v' w' hown' hb'
    have HW := Lib.hid hown'
    clear hown'
    go_wp2_with fail
    go_ret
    refine ⟨_, rfl, ?_, ((Below.refl w.heap.size w).alloc (Nat.le_refl _) _).trans hb'⟩
    exact HW.out
theorem ty_set_v : ∀ (l : List TyI) (i : Nat) (h : i < l.length) (z : Int), (l.flatMap TyI.cells).set (i * 3) (.int .i64 z) = (l.set i ⟨z, l[i].name, l[i].ar⟩).flatMap TyI.cells
  | [], i, h, _ => by simp at h
  | x :: l, 0, _, z => by simp [TyI.cells]
  | x :: l, i + 1, h, z => by
    have ih := ty_set_v l i (by simpa using h) z
    rw [List.set_cons_succ, List.flatMap_cons, List.flatMap_cons, List.getElem_cons_succ, ← ih, show (i + 1) * 3 = i * 3 + 1 + 1 + 1 by omega]
    simp [TyI.cells]
/-- item j of the canonical type. -/
def canonJ (xs : List TyI) (j : Nat) : TyI := match xs[j]? with
  | some x => canonI (varsM xs) x
  | none => ⟨0, ByteArray.empty, 0⟩
theorem canonJ_at (xs : List TyI) (j : Nat) (h : j < xs.length) : canonJ xs j = canonI (varsM xs) xs[j] := by unfold canonJ; rw [List.getElem?_eq_getElem h]
theorem canonJ_all (xs : List TyI) : (List.range xs.length).map (canonJ xs) = canonM xs := by
  unfold canonM
  apply List.ext_getElem
  · simp
  · intro i h1 h2
    have hi : i < xs.length := by simpa using h1
    simp [canonJ_at xs i hi]
theorem markSt_at {α : Type} (m : Nat → α) (xs : List α) (i : Nat) (h : i < xs.length) : (markSt m xs i)[i]'(by rw [markSt_len _ _ _ (by omega)]; exact h) = xs[i] := by
  unfold markSt
  rw [List.getElem_append_right (by simp)]
  simp
theorem markSt_same {α : Type} (m : Nat → α) (xs : List α) (i : Nat) (h : i < xs.length) (e : m i = xs[i]) : markSt m xs (i + 1) = markSt m xs i := by
  rw [← markSt_set m xs i h, e]
  have := markSt_at m xs i h
  rw [← this]
  exact List.set_getElem_self _
theorem flat_at {α : Type} {k : Nat} (enc : α → List Value) (hk : ∀ x, (enc x).length = k) (l : List α) (i j : Nat) (h : i < l.length) (hj : j < k) : (l.flatMap enc)[i * k + j]? = (enc l[i])[j]? := by
  rw [List.flatMap_def, flatten_at (k := k) (l.map enc) i j (fun r hr => by obtain ⟨y, _, rfl⟩ := List.mem_map.1 hr; exact hk y) (by simpa using h) hj, List.getElem_map]
/-- the cells of an own slice's item. -/
theorem own_item {w : World} {B g n m c : Nat} {e : TypeId} {l : List TyI} (h : Own w B e 3 (.slice (some ⟨g, 0, none⟩) m c) n (l.flatMap TyI.cells)) (i : Nat) (hi : i < l.length) (hn : n = l.length) :
    w.cell? ⟨g, i * 3, none⟩ = some (.int .i64 l[i].v) ∧ w.cell? ⟨g, i * 3 + 1, none⟩ = some (.string l[i].name) ∧ w.cell? ⟨g, i * 3 + 2, none⟩ = some (.int .i64 l[i].ar) := by
  subst hn
  obtain ⟨-, -, hxl, hcs, hfr, -⟩ := own_parts h
  have k0 := flat_at (k := 3) TyI.cells (fun _ => rfl) l i 0 hi (by omega)
  have k1 := flat_at (k := 3) TyI.cells (fun _ => rfl) l i 1 hi (by omega)
  have k2 := flat_at (k := 3) TyI.cells (fun _ => rfl) l i 2 hi (by omega)
  refine ⟨?_, ?_, ?_⟩
  · rw [hcs _ (by omega)]; exact k0
  · rw [hcs _ (by omega)]; exact k1
  · rw [hcs _ (by omega)]; exact k2
theorem own_kept_cell {w : World} {B g n m c : Nat} {e : TypeId} {k : Nat} {xs : List Value} (h : Own w B e k (.slice (some ⟨g, 0, none⟩) m c) n xs) {p : Addr} (hp : g ≠ p.block) (u : Value) : Own (w.setCell p u) B e k (.slice (some ⟨g, 0, none⟩) m c) n xs := by
  obtain ⟨h1, h2⟩ := h
  refine ⟨h1, h2.imp id fun ⟨g', cap, cur, e, hg, hh, r⟩ => ⟨g', cap, cur, e, hg, ?_, r⟩⟩
  injection e with e
  injection e with e
  injection e with e
  subst e
  rw [Below.heap_setCell _ _ _ _ hp]; exact hh
def canonPost (w : World) (ys : List TyI) (e : Ending) (w' : World) : Prop := ∃ v', e = .returned (.agg #[v']) ∧ Own w' w.heap.size 58 3 v' ys.length (ys.flatMap TyI.cells) ∧ Below w.heap.size w w'
theorem own_weak {w : World} {B C n : Nat} {e : TypeId} {k : Nat} {v : Value} {xs : List Value} (h : Own w C e k v n xs) (hB : B ≤ C) : Own w B e k v n xs := by
  obtain ⟨h1, h2⟩ := h
  exact ⟨h1, h2.imp id fun ⟨g, cap, cur, e, hg, r⟩ => ⟨g, cap, cur, e, by omega, r⟩⟩
theorem canonM_len (xs : List TyI) : (canonM xs).length = xs.length := by simp [canonM]
theorem idx_canon (xs : List TyI) (k : Nat) (h : k < xs.length) (hb : varB xs[k] = true) : idxZ (varsM xs) xs[k].v = (canonI (varsM xs) xs[k]).v := by
  unfold idxZ canonI
  rw [if_pos ((varsM_mem' xs _).2 ⟨_, List.getElem_mem h, hb, rfl⟩), if_pos hb]
set_option maxRecDepth 100000 in
set_option maxHeartbeats 4000000 in
theorem impl_canon (w : World) (h : Hp) (hs : Sub h w) (v : Value) (xs : List TyI) (hv : TyS h v xs) (hne : 0 < xs.length) (hl : xs.length ≤ 100000000) :
    Calls Try.prog 72 #[v] w fun e w' => canonPost w (canonM xs) e w' := by
  have hm := Lib.hid hv.mem
  have HV := Lib.hid hv
  obtain ⟨a, c, rfl, hc1, hc2, -⟩ := hv
  unfold maxLen at hc2
  go_enter Try.func72, Try.ntmps72
  go_wp2_with fail
  refine (impl_varsIn _ h (hs.alloc _) _ xs HV.out hl).mono ?_
  rintro e w1 ⟨v1, rfl, hown1, hb1⟩
  obtain ⟨kc1, kf1⟩ := bcell hb1; have kz1 := hb1.size; (try simp at kz1); (first | (refine (fun (kw1_0 : w.heap.size  < w1.heap.size) => ?_) ?_; rotate_left; omega) | skip); (first | (refine (fun (kw1_1 : w.heap.size + 1 < w1.heap.size) => ?_) ?_; rotate_left; omega) | skip); (first | (refine (fun (kw1_2 : w.heap.size + 1 + 1 < w1.heap.size) => ?_) ?_; rotate_left; omega) | skip)
  have s1 := (hs.alloc (.cells #[.slice none 0 0] 28)).below hb1
  obtain ⟨va, vc, rfl, -⟩ := own_len hown1
  have HO1 := Lib.hid hown1
  clear hown1
  go_wp2_with fail
  refine (slices_Clone_TyItem _ h s1 _ xs HV.out hne (by omega)).mono ?_
  rintro e w2 ⟨v2, rfl, hown2, hb2⟩
  obtain ⟨kc2, kf2⟩ := bcell hb2; have kz2 := hb2.size; (try simp at kz2); (first | (refine (fun (kw2_0 : w.heap.size  < w2.heap.size) => ?_) ?_; rotate_left; omega) | skip); (first | (refine (fun (kw2_1 : w.heap.size + 1 < w2.heap.size) => ?_) ?_; rotate_left; omega) | skip); (first | (refine (fun (kw2_2 : w.heap.size + 1 + 1 < w2.heap.size) => ?_) ?_; rotate_left; omega) | skip)
  obtain ⟨g, oc, rfl⟩ := own_ne_nil hown2 hne
  have hcap : xs.length ≤ oc ∧ oc ≤ maxLen := by obtain ⟨a, c', e, h1, h2⟩ := own_len hown2; injection e with _ _ e; subst e; exact ⟨h1, h2⟩
  obtain ⟨ho1, ho2⟩ := hcap
  unfold maxLen at ho2
  have hg2 := (own_parts hown2).2.1
  have HO2 := Lib.hid hown2
  clear hown2
  go_wp2_with fail
  go_loopw [13] (fun iv wr => ∃ i : Nat, i ≤ xs.length ∧ iv = .int .i64 i ∧ Own wr w1.heap.size 58 3 (.slice (some ⟨g, 0, none⟩) xs.length oc) xs.length ((markSt (canonJ xs) xs i).flatMap TyI.cells) ∧ Below w1.heap.size w1 wr) (fun iv _ => xs.length - (intOf iv).toNat)
  case atStart => exact ⟨0, by omega, rfl, by rw [markSt_zero]; exact HO2.out, hb2⟩
  case round =>
    obtain ⟨i, hi, rfl, hown, hbel⟩ := hrel
    by_cases hlt : i < xs.length
    · have hi2 : i < (markSt (canonJ xs) xs i).length := by rw [markSt_len _ _ _ hi]; exact hlt
      obtain ⟨c0, c1, c2⟩ := own_item hown i hi2 (markSt_len _ _ _ hi).symm
      have he := markSt_at (canonJ xs) xs i hlt
      rw [he] at c0 c1 c2
      have hgl := (own_parts hown).2.2.2.2.2
      have HW := Lib.hid hown
      have HB := Lib.hid hbel
      have hz := hbel.size
      have hmx := hm.out _ (List.getElem_mem hlt)
      have HJ := Lib.hid (canonJ_at xs i hlt)
      have HIx := Lib.hid (idx_canon xs i hlt)
      have HSame := Lib.hid (markSt_same (canonJ xs) xs i hlt)
      have HSet := Lib.hid (show ∀ z, canonJ xs i = ⟨z, xs[i].name, xs[i].ar⟩ → ((markSt (canonJ xs) xs i).flatMap TyI.cells).set (i * 3) (.int .i64 z) = (markSt (canonJ xs) xs (i + 1)).flatMap TyI.cells from fun z hz => by
        rw [ty_set_v _ _ hi2, he, ← hz, markSt_set _ _ _ hlt])
      have HCI := Lib.hid (fun (hb : varB xs[i] = true) => show canonJ xs i = ⟨(canonI (varsM xs) xs[i]).v, xs[i].name, xs[i].ar⟩ by rw [HJ.out]; unfold canonI; rw [if_pos hb])
      have HCN := Lib.hid (fun (hb : varB xs[i] = false) => HJ.out.trans (canonI_con (varsM xs) hb))
      have HI1 := Lib.hid (fun (wx : World) (hb : Below w1.heap.size w1 wx) => slices_Index_int wx (hp wx) (Sub.self _) _ (varsM xs) (OwnInt.read (own_kept HO1.out hb (Nat.le_refl _)) (varsM_I64 hm.out) (hp wx) (fun _ _ => rfl)) xs[i].v)
      clear hown hbel he
      cases hE : xs[i].name.toList.isEmpty
      · have HS := Lib.hid (HSame.out (HCN.out (by unfold varB; exact hE)))
        go_wp2_with fail
        go_roundw
        case rel => exact ⟨i + 1, by omega, by go_num, by rw [HS.out]; exact World.ownsRow.alloc HW.out _, HB.out.alloc hz _⟩
        case measure => simp [intOf]; omega
      · have hE' : varB xs[i] = true := hE
        have HZ := Lib.hid (HSet.out _ (HCI.out hE'))
        rw [HIx.out hE'] at HI1
        go_wp2_with fail
        refine (HI1.out _ (HB.out.alloc hz _)).mono ?_
        rintro e w3 ⟨rfl, hw3⟩
        have HW3 := Lib.hid (own_kept HW.out (show Below wr.heap.size wr w3 by rw [← hw3]; exact Below.alloc (Below.refl _ _) (Nat.le_refl _) _) (Nat.le_refl _))
        have HB3 := Lib.hid (show Below w1.heap.size w1 w3 by rw [← hw3]; exact HB.out.alloc hz _)
        obtain ⟨⟨o0, g0⟩, f0⟩ := own_cells HW3.out (i * 3) (by omega)
        clear hw3
        go_wp2_with fail
        go_roundw
        case rel => exact ⟨i + 1, by omega, by go_num, by rw [← HZ.out]; exact own_set HW3.out _ _, HB3.out.setCell (by show w1.heap.size ≤ g; omega) _⟩
        case measure => simp [intOf]; omega
    · obtain rfl : i = xs.length := by omega
      have HW := Lib.hid hown
      have HB := Lib.hid hbel
      have kcr := cell_kept hbel (show w1.cell? ⟨w.heap.size, 0, none⟩ = some (.slice none 0 0) from by simpa using kc1 w.heap.size 0 (by simp))
      have kfr : wr.frozen? ⟨w.heap.size, 0, none⟩ = false := by rw [hbel.frozen (p := ⟨w.heap.size, 0, none⟩) (by show w.heap.size < w1.heap.size; omega)]; simpa using kf1 w.heap.size 0 (by simp)
      clear hown hbel
      go_wp2_with fail
      refine bodyPost_ret (v := .agg #[.slice (some ⟨g, 0, none⟩) xs.length oc]) (by simp [results, Try.results72, go_sem, kcr]) rfl ⟨_, rfl, ?_, ?_⟩
      · have hq := HW.out
        rw [markSt_end, canonJ_all] at hq
        rw [canonM_len]
        refine own_weak (B := w.heap.size) (own_kept_cell hq ?_ _) (by omega)
        show g ≠ w.heap.size
        omega
      · have hbw : Below w.heap.size w wr := (((Below.refl w.heap.size w).alloc (Nat.le_refl _) _).trans (hb1.mono (by simp))).trans (HB.out.mono (by omega))
        exact (by repeat (first | with_reducible exact Below.refl _ _ | with_reducible assumption | with_reducible refine Below.setCell ?_ ?_ _ | with_reducible refine Below.alloc ?_ ?_ _ | with_reducible refine Below.drew ?_ | (with_reducible apply below_chain; with_reducible assumption) | exact Nat.le_refl _ | omega | (simp <;> omega)))
def TyOutPost (w : World) (ys : List TyI) (e : Ending) (w' : World) : Prop := ∃ v' bs, e = .returned (.agg #[v']) ∧ TyX (hp w') v' ys bs ∧ bs.Nodup ∧ (∀ b ∈ bs, w.heap.size ≤ b ∧ b < w'.heap.size) ∧ Below w.heap.size w w'
/-- the answer of TyCanon. -/
def tyCanonM (xs : List TyI) : List TyI := if tyOkM xs then canonM xs else []
theorem tyOkM_pos {xs : List TyI} (h : tyOkM xs = true) : 0 < xs.length ∧ xs.length ≤ 200 := by
  unfold tyOkM tyItemsM at h
  simp only [Bool.and_eq_true, decide_eq_true_eq] at h
  refine ⟨?_, h.1⟩
  rcases Nat.eq_zero_or_pos xs.length with q | q
  · have := endM_end xs 0 (by omega)
    omega
  · exact q
theorem canonI_ok {vs : List Int} {x : TyI} (h : x.ok) (hl : vs.length ≤ 1000000000) : (canonI vs x).ok := by
  unfold canonI
  split
  · have := idxN_le vs x.v
    exact ⟨⟨by dsimp only; omega, by dsimp only; omega⟩, h.2.1, h.2.2⟩
  · exact h
theorem canonM_ok {xs : List TyI} (h : ∀ x ∈ xs, x.ok) (hl : xs.length ≤ 1000000000) : ∀ x ∈ canonM xs, x.ok := by
  intro x hx
  obtain ⟨y, hy, rfl⟩ := List.mem_map.1 hx
  exact canonI_ok (h y hy) (by have := varsM_len' xs; omega)
set_option maxRecDepth 100000 in
set_option maxHeartbeats 4000000 in
theorem impl_TyCanon (w : World) (h : Hp) (hs : Sub h w) (v : Value) (xs : List TyI) (hv : TyS h v xs) (hl : xs.length ≤ 100000000) :
    Calls Try.prog 20 #[.agg #[v]] w fun e w' => TyOutPost w (tyCanonM xs) e w' := by
  have hm := Lib.hid hv.mem
  have HV := Lib.hid hv
  obtain ⟨a, c, rfl, hc1, hc2, -⟩ := hv
  unfold maxLen at hc2
  obtain ⟨b, hb⟩ : ∃ b, tyOkM xs = b := ⟨_, rfl⟩
  have HT := Lib.hid (fun (wx : World) (hsx : Sub h wx) => impl_TyOk wx h hsx _ xs HV.out (by omega))
  rw [hb] at HT
  cases b
  · have HM := Lib.hid (show tyCanonM xs = [] by unfold tyCanonM; rw [hb]; rfl)
    clear hb
    rw [HM.out]
    go_enter Try.func20, Try.ntmps20
    go_wp2_with fail
    refine (HT.out _ ((hs.alloc _).alloc _)).mono ?_
    rintro e w1 ⟨rfl, hb1⟩
    obtain ⟨kc1, kf1⟩ := bcell hb1; have kz1 := hb1.size; (try simp at kz1); (first | (refine (fun (kw1_0 : w.heap.size  < w1.heap.size) => ?_) ?_; rotate_left; omega) | skip); (first | (refine (fun (kw1_1 : w.heap.size + 1 < w1.heap.size) => ?_) ?_; rotate_left; omega) | skip); (first | (refine (fun (kw1_2 : w.heap.size + 1 + 1 < w1.heap.size) => ?_) ?_; rotate_left; omega) | skip)
    go_wp2_with fail
    refine bodyPost_ret (v := .agg #[.slice none 0 0]) (by simp [results, Try.results20, go_sem, kc1]) rfl ⟨_, [], rfl, .inl ⟨rfl, rfl, none, 0, rfl, by decide⟩, List.nodup_nil, fun _ hb => (by cases hb), ?_⟩
    exact (by repeat (first | with_reducible exact Below.refl _ _ | with_reducible assumption | with_reducible refine Below.setCell ?_ ?_ _ | with_reducible refine Below.alloc ?_ ?_ _ | with_reducible refine Below.drew ?_ | (with_reducible apply below_chain; with_reducible assumption) | exact Nat.le_refl _ | omega | (simp <;> omega)))
  · have HM := Lib.hid (show tyCanonM xs = canonM xs by unfold tyCanonM; rw [hb]; rfl)
    have hpos := (tyOkM_pos hb).1
    clear hb
    rw [HM.out]
    go_enter Try.func20, Try.ntmps20
    go_wp2_with fail
    refine (HT.out _ ((hs.alloc _).alloc _)).mono ?_
    rintro e w1 ⟨rfl, hb1⟩
    obtain ⟨kc1, kf1⟩ := bcell hb1; have kz1 := hb1.size; (try simp at kz1); (first | (refine (fun (kw1_0 : w.heap.size  < w1.heap.size) => ?_) ?_; rotate_left; omega) | skip); (first | (refine (fun (kw1_1 : w.heap.size + 1 < w1.heap.size) => ?_) ?_; rotate_left; omega) | skip); (first | (refine (fun (kw1_2 : w.heap.size + 1 + 1 < w1.heap.size) => ?_) ?_; rotate_left; omega) | skip)
    have s1 := Sub.below ((hs.alloc _).alloc _) hb1
    go_wp2_with fail
    refine (impl_canon _ h s1 _ xs HV.out hpos hl).mono ?_
    rintro e w2 ⟨v2, rfl, hown2, hb2⟩
    obtain ⟨kc2, kf2⟩ := bcell hb2; have kz2 := hb2.size; (try simp at kz2); (first | (refine (fun (kw2_0 : w.heap.size  < w2.heap.size) => ?_) ?_; rotate_left; omega) | skip); (first | (refine (fun (kw2_1 : w.heap.size + 1 < w2.heap.size) => ?_) ?_; rotate_left; omega) | skip); (first | (refine (fun (kw2_2 : w.heap.size + 1 + 1 < w2.heap.size) => ?_) ?_; rotate_left; omega) | skip)
    obtain ⟨a2, c2, rfl, -⟩ := own_len hown2
    have HX := Lib.hid (OwnX.leaf (canonM xs) TyI.cells TyI.ok (fun _ _ => rfl) (canonM_ok hm.out (by omega)) hown2)
    clear hown2
    go_wp2_with fail
    obtain ⟨bs, q1, q2, q3⟩ := HX.out
    refine bodyPost_ret (v := .agg #[.slice a2 (canonM xs).length c2]) (by simp [results, Try.results20, go_sem, kc1, kc2, kw1_0, kw1_1]) rfl ⟨_, bs, rfl, ?_, q2, ?_, ?_⟩
    · refine TyX.keep q1 fun b hb => ?_
      have hb2 := (q3 b hb).1
      rw [Below.heap_setCell _ _ _ _ (by show b ≠ w.heap.size + 1; omega)]
    · intro b hb
      have hb2 := q3 b hb
      simp
      omega
    · exact (by repeat (first | with_reducible exact Below.refl _ _ | with_reducible assumption | with_reducible refine Below.setCell ?_ ?_ _ | with_reducible refine Below.alloc ?_ ?_ _ | with_reducible refine Below.drew ?_ | (with_reducible apply below_chain; with_reducible assumption) | exact Nat.le_refl _ | omega | (simp <;> omega)))
end Go.Proofs.Ytbimnhbpcppfiaa
