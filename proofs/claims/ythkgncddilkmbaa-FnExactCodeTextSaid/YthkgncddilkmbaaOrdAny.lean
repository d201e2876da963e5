import Derived.Test.YthkgncddilkmbaaGz
import Derived.Test.YthkgncddilkmbaaHaB
import Derived.Test.YthkgncddilkmbaaOrd
import Derived.Laws.EntriesVeiled
/- inOrder, whatever the nodes: the kids' closure by its contract. -/
namespace Go.Proofs.Ythkgncddilkmbaa
set_option linter.unusedVariables false
set_option linter.unusedSimpArgs false
open Go.RowKit
def intR (_ : Hp) (r : List Value) (x : Int) : Prop := r = [.int .i64 x] ∧ I64 x
abbrev IntS (h : Hp) (v : Value) (xs : List Int) : Prop := SlOf 1 intR h v xs
theorem IntS.mono {h h' : Hp} {v : Value} {xs : List Int} (q : IntS h v xs) (l : HLe h h') : IntS h' v xs := SlOf.le q l fun _ _ _ q => q
theorem IntS.mem {h : Hp} {v : Value} {xs : List Int} (q : IntS h v xs) : ∀ x ∈ xs, I64 x := by
  obtain ⟨a, c, _, _, _, r⟩ := q
  intro x hx
  rcases r with rfl | ⟨b, off, _, hc⟩
  · cases hx
  · obtain ⟨i, hi, rfl⟩ := List.getElem_of_mem hx
    obtain ⟨_, _, _, hr⟩ := hc i hi
    exact hr.2
theorem IntS.cell {h : Hp} {a : Option Addr} {n c : Nat} {xs : List Int} (q : IntS h (.slice a n c) xs) {i : Nat} (hi : i < xs.length) :
    ∃ b off, a = some ⟨b, off, none⟩ ∧ ∀ j (hj : j < xs.length), ∀ w : World, Sub h w → w.cell? ⟨b, off + j, none⟩ = some (.int .i64 xs[j]) := by
  obtain ⟨a', c', e, _, _, r⟩ := q
  injection e with e1 e2 e3
  subst e1
  rcases r with rfl | ⟨b, off, ea, hc⟩
  · simp at hi
  · refine ⟨b, off, ea, fun j hj w hw => ?_⟩
    obtain ⟨r, hr1, hr2, hr3⟩ := hc j hj
    rw [hr3.1, Nat.mul_one] at hr2
    exact hr2.cell hw (i := 0) (by simp)
theorem set_selfP {w : World} {b o : Nat} {x : Value} (h : w.cell? ⟨b, o, none⟩ = some x) (y : Value) : (w.setCell ⟨b, o, none⟩ y).cell? ⟨b, o, none⟩ = some y := by
  unfold World.cell? at h
  split at h
  · rename_i c e fr he
    have hh : (w.setCell ⟨b, o, none⟩ y).heap[b]? = some (.cells (c.setIfInBounds o y) e fr) := by
      simp only [World.setCell, Array.getElem?_modify, if_true, he, Option.map_some]
      rw [if_neg (by simp)]
    unfold World.cell?
    rw [hh]
    simp only at h ⊢
    rw [if_neg (by simp)] at h ⊢
    have hlt : o < c.size := by
      rcases Nat.lt_or_ge o c.size with q | q
      · exact q
      · rw [Array.getElem?_eq_none q] at h; cases h
    simp [hlt]
  · cases h
theorem set_otherP {w : World} {b o b' o' : Nat} (y : Value) (_ : True) (h : b' ≠ b) : (w.setCell ⟨b, o, none⟩ y).cell? ⟨b', o', none⟩ = w.cell? ⟨b', o', none⟩ := by
  unfold World.cell?
  rw [Below.heap_setCell _ _ _ _ (by exact h)]
theorem beq_someP (a b : Nat) : ((a : Int) == (b : Int)) = (some a == some b) := endZ_len (some a) b
def KidQ (h : Hp) (w : World) (l : List Int) (e : Ending) (w' : World) : Prop := ∃ v, e = .returned v ∧ IntS h v l ∧ Below w.heap.size w w'
def WalkQ (R : Option Nat) (w0 : World) (B : Nat) (W : Value) (e : Ending) (w' : World) : Prop :=
  Below w0.heap.size w0 w' ∧ ((R = none ∧ e = .returned (.bool false)) ∨ ∃ e1 : Nat, R = some e1 ∧ e = .returned (.bool true) ∧ w'.cell? ⟨B, 0, none⟩ = some (.int .i64 e1) ∧ w'.frozen? ⟨B, 0, none⟩ = false ∧ w'.cell? ⟨B + 1, 0, none⟩ = some W)
/-- the kids of the nodes, as they lie. -/
def KidR (k c : Nat) (h : Hp) (r : List Value) (l : List Int) : Prop := r.length = k ∧ ∃ u, r[c]? = some u ∧ IntS h u l
abbrev KidsAt (k c : Nat) (h : Hp) (v : Value) (ks : List (List Int)) : Prop := SlOf k (KidR k c) h v ks
theorem KidsAt.mono {k c : Nat} {h h' : Hp} {v : Value} {ks : List (List Int)} (q : KidsAt k c h v ks) (l : HLe h h') : KidsAt k c h' v ks :=
  SlOf.le q l fun r x _ ⟨e, u, hu, hi⟩ => ⟨e, u, hu, SlOf.le hi l fun _ _ _ z => z⟩
theorem KidsAt.cell {k c : Nat} {h : Hp} {a : Option Addr} {n m : Nat} {ks : List (List Int)} (q : KidsAt k c h (.slice a n m) ks) {i : Nat} (hi : i < ks.length) :
    ∃ b off, a = some ⟨b, off, none⟩ ∧ ∀ j (hj : j < ks.length), ∃ v1 : Value, IntS h v1 ks[j] ∧ ∀ w : World, Sub h w → w.cell? ⟨b, off + j * k + c, none⟩ = some v1 := by
  obtain ⟨a', c', e, -, -, h0 | ⟨b, off, ea, hc⟩⟩ := q
  · subst h0; cases hi
  · injection e with e1 e2 e3
    refine ⟨b, off, e1.trans ea, fun j hj => ?_⟩
    obtain ⟨r, r1, r2, r4, u, hu, r3⟩ := hc j hj
    obtain ⟨hlt, he⟩ := List.getElem?_eq_some_iff.1 hu
    exact ⟨u, r3, fun w hw => by rw [r2.cell hw (i := c) hlt, he]⟩
set_option maxRecDepth 100000 in
set_option maxHeartbeats 4000000 in
theorem node_walk (w0 : World) (ks : List (List Int)) (hl : ks.length ≤ 1000000000) (hks : ∀ k (h : k < ks.length), ks[k].length ≤ 1000000000) (K : FuncId) (cap : Value) (hEnt : ∀ vs w, (callFunc K vs).run Try.prog w = .ok (.enter K vs) w) (hKid : ∀ w, Below w0.heap.size w0 w → ∀ m (hm : m < ks.length), Calls Try.prog K #[.int .i64 m, cap] w fun e w' => KidQ (hp w0) w ks[m] e w') (Bn Bk : Nat) (hN : w0.cell? ⟨Bn, 0, none⟩ = some (.int .i64 ks.length)) (hK : w0.cell? ⟨Bk, 0, none⟩ = some (.func (.func K) #[] #[cap]))
    :
    ∀ (n : Nat) (w : World) (i : Int) (m : Nat) (hi : I64 i) (hb : Below w0.heap.size w0 w) (hn : ks.length - m ≤ n) (c0 : w.cell? ⟨w0.heap.size, 0, none⟩ = some (.int .i64 m)) (f0 : w.frozen? ⟨w0.heap.size, 0, none⟩ = false) (c1 : w.cell? ⟨w0.heap.size + 1, 0, none⟩ = some (.func (.func 68) #[] #[.pointer (some ⟨w0.heap.size, 0, none⟩), .pointer (some ⟨Bn, 0, none⟩), .pointer (some ⟨Bk, 0, none⟩), .pointer (some ⟨w0.heap.size + 1, 0, none⟩)])),
    Calls Try.prog 68 #[.int .i64 i, .pointer (some ⟨w0.heap.size, 0, none⟩), .pointer (some ⟨Bn, 0, none⟩), .pointer (some ⟨Bk, 0, none⟩), .pointer (some ⟨w0.heap.size + 1, 0, none⟩)] w fun e w' => WalkQ (walkR ks n i m) w0 w0.heap.size (.func (.func 68) #[] #[.pointer (some ⟨w0.heap.size, 0, none⟩), .pointer (some ⟨Bn, 0, none⟩), .pointer (some ⟨Bk, 0, none⟩), .pointer (some ⟨w0.heap.size + 1, 0, none⟩)]) e w' := by
  have HKID := Lib.hid hKid
  have hBk : Bk < w0.heap.size := World.block_lt_of_cell? _ _ hK
  have hBn : Bn < w0.heap.size := World.block_lt_of_cell? _ _ hN
  clear hKid
  have out : ∀ (n : Nat) (w : World) (i : Int) (m : Nat) (hi : I64 i) (hb : Below w0.heap.size w0 w) (c0 : w.cell? ⟨w0.heap.size, 0, none⟩ = some (.int .i64 m)) (hbad : ¬ (i = (m : Int) ∧ m < ks.length)),
      Calls Try.prog 68 #[.int .i64 i, .pointer (some ⟨w0.heap.size, 0, none⟩), .pointer (some ⟨Bn, 0, none⟩), .pointer (some ⟨Bk, 0, none⟩), .pointer (some ⟨w0.heap.size + 1, 0, none⟩)] w fun e w' => WalkQ (walkR ks n i m) w0 w0.heap.size (.func (.func 68) #[] #[.pointer (some ⟨w0.heap.size, 0, none⟩), .pointer (some ⟨Bn, 0, none⟩), .pointer (some ⟨Bk, 0, none⟩), .pointer (some ⟨w0.heap.size + 1, 0, none⟩)]) e w' := by
    intro n w i m hi hb c0 hbad
    unfold I64 at hi
    have kN := cell_kept hb hN
    have HR : walkR ks n i m = none := by
      unfold walkR
      split
      · rename_i e
        exact pEnd_out _ _ _ (by rcases Nat.lt_or_ge m ks.length with q | q; exact absurd ⟨e, q⟩ hbad; exact q)
      · rfl
    rw [HR]
    clear HR
    by_cases him : i = m
    · subst him
      have hge : ¬ m < ks.length := fun q => hbad ⟨rfl, q⟩
      clear hbad
      go_enter Try.func68, Try.ntmps68
      go_wp2_with fail
      go_ret
      exact ⟨hb, .inl ⟨rfl, rfl⟩⟩
    · clear hbad
      go_enter Try.func68, Try.ntmps68
      go_wp2_with fail
      go_ret
      exact ⟨hb, .inl ⟨rfl, rfl⟩⟩
  have OUT := Lib.hid out
  clear out
  intro n
  induction n with
  | zero =>
    intro w i m hi hb hn c0 f0 c1
    exact OUT.out 0 w i m hi hb c0 (by omega)
  | succ n ih =>
    intro w i m hi hb hn c0 f0 c1
    by_cases hin : i = (m : Int) ∧ m < ks.length
    · obtain ⟨him, hlt⟩ := hin
      subst him
      have kN := cell_kept hb hN
      have kK := cell_kept hb hK
      have IH := Lib.hid ih
      have HR : walkR ks (n + 1) m m = pKids (pEnd ks n) ks[m] (m + 1) := by
        unfold walkR
        rw [if_pos rfl, pEnd_at _ _ _ hlt]
      obtain ⟨R, hR⟩ : ∃ R, walkR ks (n + 1) m m = R := ⟨_, rfl⟩
      rw [hR]
      rw [hR] at HR
      have HRR := Lib.hid HR
      clear hR HR ih
      have hb1 := hb.setCell (p := ⟨w0.heap.size, 0, none⟩) (Nat.le_refl _) (.int .i64 ((m : Int) + 1))
      have KK := Lib.hid (HKID.out _ hb1 m hlt)
      have HB1 := Lib.hid hb1
      have hx : w0.heap.size < w.heap.size := World.block_lt_of_cell? _ _ c0
      have hxx : w0.heap.size + 1 < w.heap.size := World.block_lt_of_cell? _ _ c1
      clear hb1
      go_enter Try.func68, Try.ntmps68
      go_wp2_with fail
      refine KK.out.mono ?_
      rintro e w1 ⟨v1, rfl, hv1, hb2⟩
      have d0 : w1.cell? ⟨w0.heap.size, 0, none⟩ = some (.int .i64 ((m + 1 : Nat) : Int)) := by
        rw [(bcell hb2).1 _ _ (by simp <;> omega)]; exact set_selfP c0 _
      have d1 : w1.frozen? ⟨w0.heap.size, 0, none⟩ = false := by
        rw [(bcell hb2).2 _ _ (by simp <;> omega)]; exact (World.frozen?_setCell _ _ _ _).trans f0
      have d2 : w1.cell? ⟨w0.heap.size + 1, 0, none⟩ = some (.func (.func 68) #[] #[.pointer (some ⟨w0.heap.size, 0, none⟩), .pointer (some ⟨Bn, 0, none⟩), .pointer (some ⟨Bk, 0, none⟩), .pointer (some ⟨w0.heap.size + 1, 0, none⟩)]) := by
        rw [(bcell hb2).1 _ _ (by simp <;> omega)]; exact (set_otherP _ trivial (by omega)).trans c1
      have hb3 := below_chain hb2 HB1.out HB1.out.size
      clear c0 f0 c1 kN kK
      have HV1 := Lib.hid hv1
      have hm1 := Lib.hid hv1.mem
      obtain ⟨a, c, rfl, hc1, hc2, -⟩ := hv1
      unfold maxLen at hc2
      have hll : ks[m].length ≤ 1000000000 := hks m hlt
      have HB3 := Lib.hid hb3
      have D0 := Lib.hid d0
      have D1 := Lib.hid d1
      have D2 := Lib.hid d2
      clear hb3 d0 d1 d2
      go_wp2_with fail
      go_loopw [8, 23] (fun q i wr => ∃ (j cur : Nat), j ≤ ks[m].length ∧ i = .int .i64 j ∧ m < cur ∧ pKids (pEnd ks n) (ks[m].drop j) cur = R ∧ wr.cell? ⟨w0.heap.size, 0, none⟩ = some (.int .i64 cur) ∧ wr.frozen? ⟨w0.heap.size, 0, none⟩ = false ∧ wr.cell? ⟨w0.heap.size + 1, 0, none⟩ = some (.func (.func 68) #[] #[.pointer (some ⟨w0.heap.size, 0, none⟩), .pointer (some ⟨Bn, 0, none⟩), .pointer (some ⟨Bk, 0, none⟩), .pointer (some ⟨w0.heap.size + 1, 0, none⟩)]) ∧ Below w0.heap.size w0 wr) (fun _ i _ => ks[m].length - (intOf i).toNat)
      case atStart => exact ⟨0, m + 1, by omega, rfl, by omega, by rw [HRR.out]; rfl, D0.out, D1.out, D2.out, HB3.out⟩
      case round =>
        obtain ⟨j, cur, hj, rfl, hcur, hp, g0, g1, g2, hbel⟩ := hrel
        have HP := Lib.hid hp
        clear hp
        by_cases hjl : j < ks[m].length
        · obtain ⟨b, off, rfl, hcell⟩ := HV1.out.cell hjl
          have hc := hcell j hjl wr ((Sub.self w0).below hbel)
          have hki := Lib.hid (hm1.out _ (List.getElem_mem hjl))
          have KI := Lib.hid (IH.out wr ks[m][j] cur hki.out hbel (by omega) g0 g1 g2)
          have HQ : (walkR ks n ks[m][j] cur).bind (pKids (pEnd ks n) (ks[m].drop (j + 1))) = R := by
            rw [← HP.out, drop_cons _ j hjl, pKids_cons]
          have HQQ := Lib.hid HQ
          clear HQ hcell g0 g1
          go_wp2_with fail
          refine KI.out.mono ?_
          rintro e w2 ⟨hb4, (⟨hn1, rfl⟩ | ⟨e1, hs1, rfl, g0', g1', g2'⟩)⟩
          · have HE : R = none := by rw [← HQQ.out, hn1]; rfl
            have HEE := Lib.hid HE
            clear HE hn1
            go_wp2_with fail
            go_ret
            exact ⟨hb4, .inl ⟨HEE.out, rfl⟩⟩
          · have hgt := walkR_bd hs1
            have HE : pKids (pEnd ks n) (ks[m].drop (j + 1)) e1 = R := by rw [← HQQ.out, hs1]; rfl
            have HEE := Lib.hid HE
            have G0 := Lib.hid g0'
            have G1 := Lib.hid g1'
            have G2 := Lib.hid g2'
            clear HE hs1 g0' g1' g2'
            go_wp2_with fail
            refine ⟨⟨j + 1, e1, by omega, by go_num, by omega, HEE.out, G0.out, G1.out, G2.out, hb4⟩, ?_⟩
            simp [intOf]; omega
        · have HE : R = some cur := by
            rw [← HP.out, List.drop_eq_nil_of_le (by omega)]; rfl
          have HEE := Lib.hid HE
          have G0 := Lib.hid g0
          have G1 := Lib.hid g1
          have G2 := Lib.hid g2
          clear HE g0 g1 g2
          go_wp2_with fail
          go_ret
          exact ⟨hbel, .inr ⟨cur, HEE.out, rfl, G0.out, G1.out, G2.out⟩⟩
    · exact OUT.out (n + 1) w i m hi hb c0 hin

set_option maxRecDepth 100000 in
set_option maxHeartbeats 4000000 in
theorem node_inOrder (w : World) (ks : List (List Int)) (hl : ks.length ≤ 1000000000) (hks : ∀ k (h : k < ks.length), ks[k].length ≤ 1000000000) (K : FuncId) (cap : Value) (hEnt : ∀ vs w, (callFunc K vs).run Try.prog w = .ok (.enter K vs) w) (hKid : ∀ w1, Below w.heap.size w w1 → ∀ m (hm : m < ks.length), Calls Try.prog K #[.int .i64 m, cap] w1 fun e w' => KidQ (hp w) w1 ks[m] e w') :
    Calls Try.prog 55 #[.int .i64 ks.length, .func (.func K) #[] #[cap]] w fun e w' => e = .returned (.bool (orderM ks)) ∧ Below w.heap.size w w' := by
  obtain ⟨w0, hw0⟩ : ∃ w0, w0 = (w.alloc (.cells #[.int .i64 ks.length] 3)).alloc (.cells #[.func (.func K) #[] #[cap]] 87) := ⟨_, rfl⟩
  have b0 : Below w.heap.size w w0 := by rw [hw0]; exact (by repeat (first | with_reducible exact Below.refl _ _ | with_reducible assumption | with_reducible refine Below.setCell ?_ ?_ _ | with_reducible refine Below.alloc ?_ ?_ _ | with_reducible refine Below.drew ?_ | (with_reducible apply below_chain; with_reducible assumption) | exact Nat.le_refl _ | omega | (simp <;> omega)))
  have z0 : w0.heap.size = w.heap.size + 1 + 1 := by rw [hw0]; simp
  have n0 : w0.cell? ⟨w.heap.size, 0, none⟩ = some (.int .i64 ks.length) := by rw [hw0]; exact cell_kept ((Below.refl _ _).alloc (Nat.le_refl _) _) (new_cell0 _ _ _)
  have n1 : w0.cell? ⟨w.heap.size + 1, 0, none⟩ = some (.func (.func K) #[] #[cap]) := by
    have q := new_cell0 (w.alloc (.cells #[.int .i64 ks.length] 3)) (.func (.func K) #[] #[cap]) 87
    rw [hw0]
    rwa [show (w.alloc (.cells #[.int .i64 ks.length] 3)).heap.size = w.heap.size + 1 by simp] at q
  have q0 : (w0.alloc (.cells #[.int .i64 0] 3)).heap.size = w0.heap.size + 1 := by simp
  have m0 := cell_kept ((Below.refl (w0.alloc (.cells #[.int .i64 0] 3)).heap.size _).alloc (Nat.le_refl _) (.cells #[.func (.func 68) #[] #[.pointer (some ⟨w0.heap.size, 0, none⟩), .pointer (some ⟨w.heap.size, 0, none⟩), .pointer (some ⟨w.heap.size + 1, 0, none⟩), .pointer (some ⟨w0.heap.size + 1, 0, none⟩)]] 45)) (new_cell0 w0 (.int .i64 0) 3)
  have m1 := new_cell0 (w0.alloc (.cells #[.int .i64 0] 3)) (.func (.func 68) #[] #[.pointer (some ⟨w0.heap.size, 0, none⟩), .pointer (some ⟨w.heap.size, 0, none⟩), .pointer (some ⟨w.heap.size + 1, 0, none⟩), .pointer (some ⟨w0.heap.size + 1, 0, none⟩)]) 45
  rw [q0] at m1
  have KW := node_walk w0 ks hl hks K cap hEnt (fun w1 hb1 m hm => (hKid w1 (b0.trans (hb1.mono b0.size)) m hm).mono fun e w2 ⟨u, e1, h1, h2⟩ => ⟨u, e1, h1.mono ((Sub.self w).below b0).hle, h2⟩) w.heap.size (w.heap.size + 1) n0 n1 ks.length ((w0.alloc (.cells #[.int .i64 0] 3)).alloc (.cells #[.func (.func 68) #[] #[.pointer (some ⟨w0.heap.size, 0, none⟩), .pointer (some ⟨w.heap.size, 0, none⟩), .pointer (some ⟨w.heap.size + 1, 0, none⟩), .pointer (some ⟨w0.heap.size + 1, 0, none⟩)]] 45)) 0 0 (by unfold I64; omega) (((Below.refl _ _).alloc (Nat.le_refl _) _).alloc (by simp) _) (by omega) m0 ((frozen?_alloc_cells _ _ _ _).trans ((frozen?_alloc_cells _ _ _ _).trans (by unfold World.frozen?; rw [Array.getElem?_eq_none (Nat.le_refl _)]))) m1
  have hR : walkR ks ks.length 0 0 = pEnd ks ks.length 0 := by unfold walkR; rw [if_pos (by rfl)]
  rw [hR] at KW
  obtain ⟨R, hR2⟩ : ∃ R, pEnd ks ks.length 0 = R := ⟨_, rfl⟩
  have hM : orderM ks = (R == some ks.length) := by
    rw [← hR2]
    unfold orderM
    rfl
  rw [hM]
  rw [hR2] at KW
  rw [hw0] at KW b0 n0
  have N0 := Lib.hid n0
  have hBN : w.heap.size < w.heap.size + 1 + 1 := by omega
  rw [show ((w.alloc (.cells #[.int .i64 ks.length] 3)).alloc (.cells #[.func (.func K) #[] #[cap]] 87)).heap.size = w.heap.size + 1 + 1 by simp] at KW
  have HK := Lib.hid KW
  have HB0 := Lib.hid b0
  clear KW m0 m1 q0 n0 n1 z0 b0 hM hR hR2 hKid hks
  clear hw0
  clear w0
  go_enter Try.func55, Try.ntmps55
  go_wp2_with fail
  refine HK.out.mono ?_
  rintro e w1 ⟨hb1, (⟨hn1, rfl⟩ | ⟨e1, hs1, rfl, g0, g1, g2⟩)⟩
  · have HN := Lib.hid hn1
    clear hn1
    go_wp2_with fail
    go_ret
    exact ⟨ret_b (by rw [HN.out]; rfl), HB0.out.trans (hb1.mono (by simp <;> omega))⟩
  · have HN := Lib.hid hs1
    clear hs1
    have g3 := (hb1.cell (p := ⟨w.heap.size, 0, none⟩) (by simp <;> omega)).trans N0.out
    go_wp2_with fail
    go_ret
    exact ⟨ret_b (by rw [HN.out]; exact beq_someP e1 ks.length), HB0.out.trans (hb1.mono (by simp <;> omega))⟩
end Go.Proofs.Ythkgncddilkmbaa
