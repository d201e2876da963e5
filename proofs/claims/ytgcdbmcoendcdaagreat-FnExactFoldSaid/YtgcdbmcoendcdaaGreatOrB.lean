import Derived.WalkKit
import Derived.Lib.Hide
import Derived.Test.YtgcdbmcoendcdaaGreatGwB
import Derived.Test.YtgcdbmcoendcdaaGreatHaB
import Derived.Laws.EntriesVeiled
/- Nodes in the walk's order: plain. -/
set_option maxRecDepth 100000
set_option maxHeartbeats 4000000
namespace Go.Proofs.YtgcdbmcoendcdaaGreat
set_option linter.unusedVariables false
def pKids (f : Nat → Option Nat) : List Int → Nat → Option Nat
  | [], next => some next
  | k :: l, next => if k = (next : Int) then (f next).bind (pKids f l) else none
def pEnd (ks : List (List Int)) : Nat → Nat → Option Nat
  | 0, _ => none
  | n + 1, at_ => (ks[at_]?).bind fun l => pKids (pEnd ks n) l (at_ + 1)
def walkR (ks : List (List Int)) (n : Nat) (i : Int) (m : Nat) : Option Nat := if i = (m : Int) then pEnd ks n m else none
def orderM (ks : List (List Int)) : Bool := pEnd ks ks.length 0 == some ks.length
theorem pKids_cons (ks : List (List Int)) (n : Nat) (k : Int) (l : List Int) (m : Nat) : pKids (pEnd ks n) (k :: l) m = (walkR ks n k m).bind (pKids (pEnd ks n) l) := by
  unfold walkR
  rw [pKids]
  split <;> rfl
theorem pKids_bd (f : Nat → Option Nat) (N : Nat) (hf : ∀ m e, f m = some e → m < e ∧ e ≤ N) : ∀ (l : List Int) (m e : Nat), m ≤ N → pKids f l m = some e → m ≤ e ∧ e ≤ N
  | [], m, e, hm, h => by
    have h' : some m = some e := h
    injection h' with h'; omega
  | k :: l, m, e, hm, h => by
    rw [pKids] at h
    split at h
    · cases hc : f m with
      | none => rw [hc] at h; cases h
      | some e1 =>
        rw [hc] at h
        have := hf m e1 hc
        have := pKids_bd f N hf l e1 e this.2 h
        omega
    · cases h
theorem pEnd_bd (ks : List (List Int)) : ∀ (n m e : Nat), pEnd ks n m = some e → m < e ∧ e ≤ ks.length
  | 0, m, e, h => by cases h
  | n + 1, m, e, h => by
    rw [pEnd] at h
    cases hl : ks[m]? with
    | none => rw [hl] at h; cases h
    | some l =>
      rw [hl] at h
      have hm : m < ks.length := by
        rcases Nat.lt_or_ge m ks.length with q | q
        · exact q
        · rw [List.getElem?_eq_none q] at hl; cases hl
      have := pKids_bd (pEnd ks n) ks.length (pEnd_bd ks n) l (m + 1) e hm h
      omega
theorem walkR_bd {ks : List (List Int)} {n : Nat} {i : Int} {m e : Nat} (h : walkR ks n i m = some e) : i = m ∧ m < e ∧ e ≤ ks.length := by
  unfold walkR at h
  split at h
  · rename_i hi
    have := pEnd_bd ks n m e h
    exact ⟨hi, this⟩
  · cases h
theorem pEnd_at (ks : List (List Int)) (n m : Nat) (h : m < ks.length) : pEnd ks (n + 1) m = pKids (pEnd ks n) ks[m] (m + 1) := by
  rw [pEnd, List.getElem?_eq_getElem h]; rfl
theorem pEnd_out (ks : List (List Int)) (n m : Nat) (h : ks.length ≤ m) : pEnd ks n m = none := by
  cases n with
  | zero => rfl
  | succ n => rw [pEnd, List.getElem?_eq_none h]; rfl
def endZ (o : Option Nat) : Int := match o with | none => -1 | some e => (e : Int)
theorem endZ_len (o : Option Nat) (n : Nat) : (endZ o == (n : Int)) = (o == some n) := by
  cases o with
  | none => simp [endZ]
  | some e =>
    simp only [endZ]
    by_cases h : e = n
    · subst h; simp
    · have : ¬ (e : Int) = n := by omega
      have a : ((e : Int) == (n : Int)) = false := beq_eq_false_iff_ne.mpr this
      have b : (some e == some n) = false := beq_eq_false_iff_ne.mpr (by simpa using h)
      rw [a, b]
theorem drop_cons {α : Type} (l : List α) (j : Nat) (h : j < l.length) : l.drop j = l[j] :: l.drop (j + 1) := List.drop_eq_getElem_cons h
end Go.Proofs.YtgcdbmcoendcdaaGreat

namespace Go.Proofs.YtgcdbmcoendcdaaGreat
set_option linter.unusedVariables false
set_option linter.unusedSimpArgs false
open Go.RowKit
def intR (_ : Hp) (r : List Value) (x : Int) : Prop := r = [.int .i64 x] ∧ I64 x
abbrev IntS (h : Hp) (v : Value) (xs : List Int) : Prop := SlOf 1 intR h v xs
theorem IntS.mono {h h' : Hp} {v : Value} {xs : List Int} (q : IntS h v xs) (l : HLe h h') : IntS h' v xs := SlOf.le q l fun _ _ _ q => q
theorem IntS.mem {h : Hp} {v : Value} {xs : List Int} (q : IntS h v xs) : ∀ x ∈ xs, I64 x := by
  obtain ⟨a, c, _, _, _, r⟩ := q
  intro x hx
  rcases r with rfl | ⟨b, off, _, hc⟩
  · cases hx
  · obtain ⟨i, hi, rfl⟩ := List.getElem_of_mem hx
    obtain ⟨_, _, _, hr⟩ := hc i hi
    exact hr.2
theorem IntS.cell {h : Hp} {a : Option Addr} {n c : Nat} {xs : List Int} (q : IntS h (.slice a n c) xs) {i : Nat} (hi : i < xs.length) :
    ∃ b off, a = some ⟨b, off, none⟩ ∧ ∀ j (hj : j < xs.length), ∀ w : World, Sub h w → w.cell? ⟨b, off + j, none⟩ = some (.int .i64 xs[j]) := by
  obtain ⟨a', c', e, _, _, r⟩ := q
  injection e with e1 e2 e3
  subst e1
  rcases r with rfl | ⟨b, off, ea, hc⟩
  · simp at hi
  · refine ⟨b, off, ea, fun j hj w hw => ?_⟩
    obtain ⟨r, hr1, hr2, hr3⟩ := hc j hj
    rw [hr3.1, Nat.mul_one] at hr2
    exact hr2.cell hw (i := 0) (by simp)
theorem set_selfP {w : World} {b o : Nat} {x : Value} (h : w.cell? ⟨b, o, none⟩ = some x) (y : Value) : (w.setCell ⟨b, o, none⟩ y).cell? ⟨b, o, none⟩ = some y := by
  unfold World.cell? at h
  split at h
  · rename_i c e fr he
    have hh : (w.setCell ⟨b, o, none⟩ y).heap[b]? = some (.cells (c.setIfInBounds o y) e fr) := by
      simp only [World.setCell, Array.getElem?_modify, if_true, he, Option.map_some]
      rw [if_neg (by simp)]
    unfold World.cell?
    rw [hh]
    simp only at h ⊢
    rw [if_neg (by simp)] at h ⊢
    have hlt : o < c.size := by
      rcases Nat.lt_or_ge o c.size with q | q
      · exact q
      · rw [Array.getElem?_eq_none q] at h; cases h
    simp [hlt]
  · cases h
theorem set_otherP {w : World} {b o b' o' : Nat} (y : Value) (_ : True) (h : b' ≠ b) : (w.setCell ⟨b, o, none⟩ y).cell? ⟨b', o', none⟩ = w.cell? ⟨b', o', none⟩ := by
  unfold World.cell?
  rw [Below.heap_setCell _ _ _ _ (by exact h)]
theorem beq_someP (a b : Nat) : ((a : Int) == (b : Int)) = (some a == some b) := endZ_len (some a) b
def KidQ (h : Hp) (w : World) (l : List Int) (e : Ending) (w' : World) : Prop := ∃ v, e = .returned v ∧ IntS h v l ∧ Below w.heap.size w w'
def WalkQ (R : Option Nat) (w0 : World) (B : Nat) (W : Value) (e : Ending) (w' : World) : Prop :=
  Below w0.heap.size w0 w' ∧ ((R = none ∧ e = .returned (.bool false)) ∨ ∃ e1 : Nat, R = some e1 ∧ e = .returned (.bool true) ∧ w'.cell? ⟨B, 0, none⟩ = some (.int .i64 e1) ∧ w'.frozen? ⟨B, 0, none⟩ = false ∧ w'.cell? ⟨B + 1, 0, none⟩ = some W)
def KidR (k c : Nat) (h : Hp) (r : List Value) (l : List Int) : Prop := r.length = k ∧ ∃ u, r[c]? = some u ∧ IntS h u l
abbrev KidsAt (k c : Nat) (h : Hp) (v : Value) (ks : List (List Int)) : Prop := SlOf k (KidR k c) h v ks
theorem KidsAt.mono {k c : Nat} {h h' : Hp} {v : Value} {ks : List (List Int)} (q : KidsAt k c h v ks) (l : HLe h h') : KidsAt k c h' v ks :=
  SlOf.le q l fun r x _ ⟨e, u, hu, hi⟩ => ⟨e, u, hu, SlOf.le hi l fun _ _ _ z => z⟩
theorem KidsAt.cell {k c : Nat} {h : Hp} {a : Option Addr} {n m : Nat} {ks : List (List Int)} (q : KidsAt k c h (.slice a n m) ks) {i : Nat} (hi : i < ks.length) :
    ∃ b off, a = some ⟨b, off, none⟩ ∧ ∀ j (hj : j < ks.length), ∃ v1 : Value, IntS h v1 ks[j] ∧ ∀ w : World, Sub h w → w.cell? ⟨b, off + j * k + c, none⟩ = some v1 := by
  obtain ⟨a', c', e, -, -, h0 | ⟨b, off, ea, hc⟩⟩ := q
  · subst h0; cases hi
  · injection e with e1 e2 e3
    refine ⟨b, off, e1.trans ea, fun j hj => ?_⟩
    obtain ⟨r, r1, r2, r4, u, hu, r3⟩ := hc j hj
    obtain ⟨hlt, he⟩ := List.getElem?_eq_some_iff.1 hu
    exact ⟨u, r3, fun w hw => by rw [r2.cell hw (i := c) hlt, he]⟩
theorem node_walk (w0 : World) (ks : List (List Int)) (hl : ks.length ≤ 1000000000) (hks : ∀ k (h : k < ks.length), ks[k].length ≤ 1000000000) (K : FuncId) (cap : Value) (hEnt : ∀ vs w, (callFunc K vs).run Tryz.prog w = .ok (.enter K vs) w) (hKid : ∀ w, Below w0.heap.size w0 w → ∀ m (hm : m < ks.length), Calls Tryz.prog K #[.int .i64 m, cap] w fun e w' => KidQ (hp w0) w ks[m] e w') (Bn Bk : Nat) (hN : w0.cell? ⟨Bn, 0, none⟩ = some (.int .i64 ks.length)) (hK : w0.cell? ⟨Bk, 0, none⟩ = some (.func (.func K) #[] #[cap]))
    :
    ∀ (n : Nat) (w : World) (i : Int) (m : Nat) (hi : I64 i) (hb : Below w0.heap.size w0 w) (hn : ks.length - m ≤ n) (c0 : w.cell? ⟨w0.heap.size, 0, none⟩ = some (.int .i64 m)) (f0 : w.frozen? ⟨w0.heap.size, 0, none⟩ = false) (c1 : w.cell? ⟨w0.heap.size + 1, 0, none⟩ = some (.func (.func 176) #[] #[.pointer (some ⟨w0.heap.size, 0, none⟩), .pointer (some ⟨Bn, 0, none⟩), .pointer (some ⟨Bk, 0, none⟩), .pointer (some ⟨w0.heap.size + 1, 0, none⟩)])),
    Calls Tryz.prog 176 #[.int .i64 i, .pointer (some ⟨w0.heap.size, 0, none⟩), .pointer (some ⟨Bn, 0, none⟩), .pointer (some ⟨Bk, 0, none⟩), .pointer (some ⟨w0.heap.size + 1, 0, none⟩)] w fun e w' => WalkQ (walkR ks n i m) w0 w0.heap.size (.func (.func 176) #[] #[.pointer (some ⟨w0.heap.size, 0, none⟩), .pointer (some ⟨Bn, 0, none⟩), .pointer (some ⟨Bk, 0, none⟩), .pointer (some ⟨w0.heap.size + 1, 0, none⟩)]) e w' := by
  have HKID := Lib.hid hKid
  have hBk : Bk < w0.heap.size := World.block_lt_of_cell? _ _ hK
  have hBn : Bn < w0.heap.size := World.block_lt_of_cell? _ _ hN
  clear hKid
  have out : ∀ (n : Nat) (w : World) (i : Int) (m : Nat) (hi : I64 i) (hb : Below w0.heap.size w0 w) (c0 : w.cell? ⟨w0.heap.size, 0, none⟩ = some (.int .i64 m)) (hbad : ¬ (i = (m : Int) ∧ m < ks.length)),
      Calls Tryz.prog 176 #[.int .i64 i, .pointer (some ⟨w0.heap.size, 0, none⟩), .pointer (some ⟨Bn, 0, none⟩), .pointer (some ⟨Bk, 0, none⟩), .pointer (some ⟨w0.heap.size + 1, 0, none⟩)] w fun e w' => WalkQ (walkR ks n i m) w0 w0.heap.size (.func (.func 176) #[] #[.pointer (some ⟨w0.heap.size, 0, none⟩), .pointer (some ⟨Bn, 0, none⟩), .pointer (some ⟨Bk, 0, none⟩), .pointer (some ⟨w0.heap.size + 1, 0, none⟩)]) e w' := by
    intro n w i m hi hb c0 hbad
    unfold I64 at hi
    have kN := cell_kept hb hN
    have HR : walkR ks n i m = none := by
      unfold walkR
      split
      · rename_i e
        exact pEnd_out _ _ _ (by rcases Nat.lt_or_ge m ks.length with q | q; exact absurd ⟨e, q⟩ hbad; exact q)
      · rfl
    rw [HR]
    clear HR
    by_cases him : i = m
    · subst him
      have hge : ¬ m < ks.length := fun q => hbad ⟨rfl, q⟩
      clear hbad
      go_enter Tryz.func176, Tryz.ntmps176
      go_wp2_with fail
      go_ret
      exact ⟨hb, .inl ⟨rfl, rfl⟩⟩
    · clear hbad
      go_enter Tryz.func176, Tryz.ntmps176
      go_wp2_with fail
      go_ret
      exact ⟨hb, .inl ⟨rfl, rfl⟩⟩
  have OUT := Lib.hid out
  clear out
  intro n
  induction n with
  | zero =>
    intro w i m hi hb hn c0 f0 c1
    exact OUT.out 0 w i m hi hb c0 (by omega)
  | succ n ih =>
    intro w i m hi hb hn c0 f0 c1
    by_cases hin : i = (m : Int) ∧ m < ks.length
    · obtain ⟨him, hlt⟩ := hin
      subst him
      have kN := cell_kept hb hN
      have kK := cell_kept hb hK
      have IH := Lib.hid ih
      have HR : walkR ks (n + 1) m m = pKids (pEnd ks n) ks[m] (m + 1) := by
        unfold walkR
        rw [if_pos rfl, pEnd_at _ _ _ hlt]
      obtain ⟨R, hR⟩ : ∃ R, walkR ks (n + 1) m m = R := ⟨_, rfl⟩
      rw [hR]
      rw [hR] at HR
      have HRR := Lib.hid HR
      clear hR HR ih
      have hb1 := hb.setCell (p := ⟨w0.heap.size, 0, none⟩) (Nat.le_refl _) (.int .i64 ((m : Int) + 1))
      have KK := Lib.hid (HKID.out _ hb1 m hlt)
      have HB1 := Lib.hid hb1
      have hx : w0.heap.size < w.heap.size := World.block_lt_of_cell? _ _ c0
      have hxx : w0.heap.size + 1 < w.heap.size := World.block_lt_of_cell? _ _ c1
      clear hb1
      go_enter Tryz.func176, Tryz.ntmps176
      go_wp2_with fail
      refine KK.out.mono ?_
      rintro e w1 ⟨v1, rfl, hv1, hb2⟩
      have d0 : w1.cell? ⟨w0.heap.size, 0, none⟩ = some (.int .i64 ((m + 1 : Nat) : Int)) := by
        rw [(bcell hb2).1 _ _ (by simp <;> omega)]; exact set_selfP c0 _
      have d1 : w1.frozen? ⟨w0.heap.size, 0, none⟩ = false := by
        rw [(bcell hb2).2 _ _ (by simp <;> omega)]; exact (World.frozen?_setCell _ _ _ _).trans f0
      have d2 : w1.cell? ⟨w0.heap.size + 1, 0, none⟩ = some (.func (.func 176) #[] #[.pointer (some ⟨w0.heap.size, 0, none⟩), .pointer (some ⟨Bn, 0, none⟩), .pointer (some ⟨Bk, 0, none⟩), .pointer (some ⟨w0.heap.size + 1, 0, none⟩)]) := by
        rw [(bcell hb2).1 _ _ (by simp <;> omega)]; exact (set_otherP _ trivial (by omega)).trans c1
      have hb3 := below_chain hb2 HB1.out HB1.out.size
      clear c0 f0 c1 kN kK
      have HV1 := Lib.hid hv1
      have hm1 := Lib.hid hv1.mem
      obtain ⟨a, c, rfl, hc1, hc2, -⟩ := hv1
      unfold maxLen at hc2
      have hll : ks[m].length ≤ 1000000000 := hks m hlt
      have HB3 := Lib.hid hb3
      have D0 := Lib.hid d0
      have D1 := Lib.hid d1
      have D2 := Lib.hid d2
      clear hb3 d0 d1 d2
      go_wp2_with fail
      go_loopw [8, 23] (fun q i wr => ∃ (j cur : Nat), j ≤ ks[m].length ∧ i = .int .i64 j ∧ m < cur ∧ pKids (pEnd ks n) (ks[m].drop j) cur = R ∧ wr.cell? ⟨w0.heap.size, 0, none⟩ = some (.int .i64 cur) ∧ wr.frozen? ⟨w0.heap.size, 0, none⟩ = false ∧ wr.cell? ⟨w0.heap.size + 1, 0, none⟩ = some (.func (.func 176) #[] #[.pointer (some ⟨w0.heap.size, 0, none⟩), .pointer (some ⟨Bn, 0, none⟩), .pointer (some ⟨Bk, 0, none⟩), .pointer (some ⟨w0.heap.size + 1, 0, none⟩)]) ∧ Below w0.heap.size w0 wr) (fun _ i _ => ks[m].length - (intOf i).toNat)
      case atStart => exact ⟨0, m + 1, by omega, rfl, by omega, by rw [HRR.out]; rfl, D0.out, D1.out, D2.out, HB3.out⟩
      case round =>
        obtain ⟨j, cur, hj, rfl, hcur, hp, g0, g1, g2, hbel⟩ := hrel
        have HP := Lib.hid hp
        clear hp
        by_cases hjl : j < ks[m].length
        · obtain ⟨b, off, rfl, hcell⟩ := HV1.out.cell hjl
          have hc := hcell j hjl wr ((Sub.self w0).below hbel)
          have hki := Lib.hid (hm1.out _ (List.getElem_mem hjl))
          have KI := Lib.hid (IH.out wr ks[m][j] cur hki.out hbel (by omega) g0 g1 g2)
          have HQ : (walkR ks n ks[m][j] cur).bind (pKids (pEnd ks n) (ks[m].drop (j + 1))) = R := by
            rw [← HP.out, drop_cons _ j hjl, pKids_cons]
          have HQQ := Lib.hid HQ
          clear HQ hcell g0 g1
          go_wp2_with fail
          refine KI.out.mono ?_
          rintro e w2 ⟨hb4, (⟨hn1, rfl⟩ | ⟨e1, hs1, rfl, g0', g1', g2'⟩)⟩
          · have HE : R = none := by rw [← HQQ.out, hn1]; rfl
            have HEE := Lib.hid HE
            clear HE hn1
            go_wp2_with fail
            go_ret
            exact ⟨hb4, .inl ⟨HEE.out, rfl⟩⟩
          · have hgt := walkR_bd hs1
            have HE : pKids (pEnd ks n) (ks[m].drop (j + 1)) e1 = R := by rw [← HQQ.out, hs1]; rfl
            have HEE := Lib.hid HE
            have G0 := Lib.hid g0'
            have G1 := Lib.hid g1'
            have G2 := Lib.hid g2'
            clear HE hs1 g0' g1' g2'
            go_wp2_with fail
            refine ⟨⟨j + 1, e1, by omega, by go_num, by omega, HEE.out, G0.out, G1.out, G2.out, hb4⟩, ?_⟩
            simp [intOf]; omega
        · have HE : R = some cur := by
            rw [← HP.out, List.drop_eq_nil_of_le (by omega)]; rfl
          have HEE := Lib.hid HE
          have G0 := Lib.hid g0
          have G1 := Lib.hid g1
          have G2 := Lib.hid g2
          clear HE g0 g1 g2
          go_wp2_with fail
          go_ret
          exact ⟨hbel, .inr ⟨cur, HEE.out, rfl, G0.out, G1.out, G2.out⟩⟩
    · exact OUT.out (n + 1) w i m hi hb c0 hin

theorem node_inOrder (w : World) (ks : List (List Int)) (hl : ks.length ≤ 1000000000) (hks : ∀ k (h : k < ks.length), ks[k].length ≤ 1000000000) (K : FuncId) (cap : Value) (hEnt : ∀ vs w, (callFunc K vs).run Tryz.prog w = .ok (.enter K vs) w) (hKid : ∀ w1, Below w.heap.size w w1 → ∀ m (hm : m < ks.length), Calls Tryz.prog K #[.int .i64 m, cap] w1 fun e w' => KidQ (hp w) w1 ks[m] e w') :
    Calls Tryz.prog 95 #[.int .i64 ks.length, .func (.func K) #[] #[cap]] w fun e w' => e = .returned (.bool (orderM ks)) ∧ Below w.heap.size w w' := by
  obtain ⟨w0, hw0⟩ : ∃ w0, w0 = (w.alloc (.cells #[.int .i64 ks.length] 3)).alloc (.cells #[.func (.func K) #[] #[cap]] 148) := ⟨_, rfl⟩
  have b0 : Below w.heap.size w w0 := by rw [hw0]; exact (by repeat (first | with_reducible exact Below.refl _ _ | with_reducible assumption | with_reducible refine Below.setCell ?_ ?_ _ | with_reducible refine Below.alloc ?_ ?_ _ | with_reducible refine Below.drew ?_ | (with_reducible apply below_chain; with_reducible assumption) | exact Nat.le_refl _ | omega | (simp <;> omega)))
  have z0 : w0.heap.size = w.heap.size + 1 + 1 := by rw [hw0]; simp
  have n0 : w0.cell? ⟨w.heap.size, 0, none⟩ = some (.int .i64 ks.length) := by rw [hw0]; exact cell_kept ((Below.refl _ _).alloc (Nat.le_refl _) _) (new_cell0 _ _ _)
  have n1 : w0.cell? ⟨w.heap.size + 1, 0, none⟩ = some (.func (.func K) #[] #[cap]) := by
    have q := new_cell0 (w.alloc (.cells #[.int .i64 ks.length] 3)) (.func (.func K) #[] #[cap]) 148
    rw [hw0]
    rwa [show (w.alloc (.cells #[.int .i64 ks.length] 3)).heap.size = w.heap.size + 1 by simp] at q
  have q0 : (w0.alloc (.cells #[.int .i64 0] 3)).heap.size = w0.heap.size + 1 := by simp
  have m0 := cell_kept ((Below.refl (w0.alloc (.cells #[.int .i64 0] 3)).heap.size _).alloc (Nat.le_refl _) (.cells #[.func (.func 176) #[] #[.pointer (some ⟨w0.heap.size, 0, none⟩), .pointer (some ⟨w.heap.size, 0, none⟩), .pointer (some ⟨w.heap.size + 1, 0, none⟩), .pointer (some ⟨w0.heap.size + 1, 0, none⟩)]] 108)) (new_cell0 w0 (.int .i64 0) 3)
  have m1 := new_cell0 (w0.alloc (.cells #[.int .i64 0] 3)) (.func (.func 176) #[] #[.pointer (some ⟨w0.heap.size, 0, none⟩), .pointer (some ⟨w.heap.size, 0, none⟩), .pointer (some ⟨w.heap.size + 1, 0, none⟩), .pointer (some ⟨w0.heap.size + 1, 0, none⟩)]) 108
  rw [q0] at m1
  have KW := node_walk w0 ks hl hks K cap hEnt (fun w1 hb1 m hm => (hKid w1 (b0.trans (hb1.mono b0.size)) m hm).mono fun e w2 ⟨u, e1, h1, h2⟩ => ⟨u, e1, h1.mono ((Sub.self w).below b0).hle, h2⟩) w.heap.size (w.heap.size + 1) n0 n1 ks.length ((w0.alloc (.cells #[.int .i64 0] 3)).alloc (.cells #[.func (.func 176) #[] #[.pointer (some ⟨w0.heap.size, 0, none⟩), .pointer (some ⟨w.heap.size, 0, none⟩), .pointer (some ⟨w.heap.size + 1, 0, none⟩), .pointer (some ⟨w0.heap.size + 1, 0, none⟩)]] 108)) 0 0 (by unfold I64; omega) (((Below.refl _ _).alloc (Nat.le_refl _) _).alloc (by simp) _) (by omega) m0 ((frozen?_alloc_cells _ _ _ _).trans ((frozen?_alloc_cells _ _ _ _).trans (by unfold World.frozen?; rw [Array.getElem?_eq_none (Nat.le_refl _)]))) m1
  have hR : walkR ks ks.length 0 0 = pEnd ks ks.length 0 := by unfold walkR; rw [if_pos (by rfl)]
  rw [hR] at KW
  obtain ⟨R, hR2⟩ : ∃ R, pEnd ks ks.length 0 = R := ⟨_, rfl⟩
  have hM : orderM ks = (R == some ks.length) := by
    rw [← hR2]
    unfold orderM
    rfl
  rw [hM]
  rw [hR2] at KW
  rw [hw0] at KW b0 n0
  have N0 := Lib.hid n0
  have hBN : w.heap.size < w.heap.size + 1 + 1 := by omega
  rw [show ((w.alloc (.cells #[.int .i64 ks.length] 3)).alloc (.cells #[.func (.func K) #[] #[cap]] 148)).heap.size = w.heap.size + 1 + 1 by simp] at KW
  have HK := Lib.hid KW
  have HB0 := Lib.hid b0
  clear KW m0 m1 q0 n0 n1 z0 b0 hM hR hR2 hKid hks
  clear hw0
  clear w0
  go_enter Tryz.func95, Tryz.ntmps95
  go_wp2_with fail
  refine HK.out.mono ?_
  rintro e w1 ⟨hb1, (⟨hn1, rfl⟩ | ⟨e1, hs1, rfl, g0, g1, g2⟩)⟩
  · have HN := Lib.hid hn1
    clear hn1
    go_wp2_with fail
    go_ret
    exact ⟨ret_b (by rw [HN.out]; rfl), HB0.out.trans (hb1.mono (by simp <;> omega))⟩
  · have HN := Lib.hid hs1
    clear hs1
    have g3 := (hb1.cell (p := ⟨w.heap.size, 0, none⟩) (by simp <;> omega)).trans N0.out
    go_wp2_with fail
    go_ret
    exact ⟨ret_b (by rw [HN.out]; exact beq_someP e1 ks.length), HB0.out.trans (hb1.mono (by simp <;> omega))⟩
end Go.Proofs.YtgcdbmcoendcdaaGreat

namespace Go.Proofs.YtgcdbmcoendcdaaGreat
set_option linter.unusedVariables false
inductive Arb (α : Type) where
  | mk (a : α) (kids : List (Arb α))
namespace Arb
variable {α N : Type}
def a : Arb α → α | .mk a _ => a
def kids : Arb α → List (Arb α) | .mk _ k => k
theorem eta (t : Arb α) : t = .mk t.a t.kids := by cases t; rfl
theorem a_mk (x : α) (l : List (Arb α)) : (Arb.mk x l).a = x := rfl
theorem kids_mk (x : α) (l : List (Arb α)) : (Arb.mk x l).kids = l := rfl
mutual
def size : Arb α → Nat | .mk _ l => 1 + sizeL l
def sizeL : List (Arb α) → Nat | [] => 0 | t :: l => size t + sizeL l
end
def idxs : Nat → List (Arb α) → List Int
  | _, [] => []
  | b, t :: l => (b : Int) :: idxs (b + t.size) l
mutual
def lay (f : α → List Int → N) : Nat → Arb α → List N
  | b, .mk a l => f a (idxs (b + 1) l) :: layL f (b + 1) l
def layL (f : α → List Int → N) : Nat → List (Arb α) → List N
  | _, [] => []
  | b, t :: l => lay f b t ++ layL f (b + t.size) l
end
theorem ind {P : Arb α → Prop} (h : ∀ a l, (∀ x ∈ l, P x) → P (.mk a l)) : ∀ t, P t := fun t =>
  Arb.rec (motive_1 := P) (motive_2 := fun l => ∀ x ∈ l, P x) (fun a l ih => h a l ih) (by simp) (fun t l h1 h2 => by simpa using ⟨h1, h2⟩) t
theorem size_mk (x : α) (l : List (Arb α)) : (Arb.mk x l).size = 1 + sizeL l := rfl
theorem sizeL_nil : sizeL ([] : List (Arb α)) = 0 := rfl
theorem sizeL_cons (t : Arb α) (l : List (Arb α)) : sizeL (t :: l) = t.size + sizeL l := rfl
theorem size_pos (t : Arb α) : 0 < t.size := by cases t; rw [size_mk]; omega
theorem sizeL_app (l m : List (Arb α)) : sizeL (l ++ m) = sizeL l + sizeL m := by
  induction l with
  | nil => simp [sizeL_nil]
  | cons t l ih => rw [List.cons_append, sizeL_cons, sizeL_cons, ih]; omega
theorem sizeL_len (l : List (Arb α)) : l.length ≤ sizeL l := by
  induction l with
  | nil => exact Nat.le_refl _
  | cons t l ih => have := size_pos t; rw [sizeL_cons, List.length_cons]; omega
theorem size_mem {x : Arb α} {l : List (Arb α)} (h : x ∈ l) : x.size ≤ sizeL l := by
  induction l with
  | nil => cases h
  | cons t l ih =>
    rw [sizeL_cons]
    rcases List.mem_cons.1 h with rfl | h
    · omega
    · have := ih h; omega
theorem size_lt {x : Arb α} {a : α} {l : List (Arb α)} (h : x ∈ l) : x.size < (Arb.mk a l).size := by have := size_mem h; rw [size_mk]; omega
theorem size_lt2 {x : Arb α} {a b : α} {l r : List (Arb α)} (h : x ∈ r) (h2 : Arb.mk b r ∈ l) : x.size < (Arb.mk a l).size := Nat.lt_trans (size_lt h) (size_lt h2)
theorem indS {P : Arb α → Prop} (h : ∀ t, (∀ x : Arb α, x.size < t.size → P x) → P t) (t : Arb α) : P t := by
  have : ∀ n, ∀ t : Arb α, t.size ≤ n → P t := by
    intro n
    induction n with
    | zero => intro t ht; have := size_pos t; omega
    | succ n ih => intro t ht; exact h t fun x hx => ih x (by omega)
  exact this t.size t (Nat.le_refl _)
theorem idxs_len (b : Nat) (l : List (Arb α)) : (idxs b l).length = l.length := by
  induction l generalizing b with
  | nil => rfl
  | cons t l ih => rw [idxs, List.length_cons, List.length_cons, ih]
theorem idxs_at (b : Nat) (l : List (Arb α)) (i : Nat) (h : i < l.length) : (idxs b l)[i]'(by rw [idxs_len]; exact h) = ((b + sizeL (l.take i) : Nat) : Int) := by
  induction l generalizing b i with
  | nil => simp at h
  | cons t l ih =>
    cases i with
    | zero => simp [idxs, sizeL_nil]
    | succ i =>
      have := ih (b + t.size) i (by simpa using h)
      simp only [idxs, List.getElem_cons_succ, List.take_succ_cons, sizeL_cons]
      rw [this]; congr 1; omega
theorem idxs_app (b : Nat) (l m : List (Arb α)) : idxs b (l ++ m) = idxs b l ++ idxs (b + sizeL l) m := by
  induction l generalizing b with
  | nil => simp [idxs, sizeL_nil]
  | cons t l ih => rw [List.cons_append, idxs, idxs, ih, sizeL_cons, List.cons_append, Nat.add_assoc]
variable {f : α → List Int → N}
theorem lay_mk (b : Nat) (x : α) (l : List (Arb α)) : lay f b (.mk x l) = f x (idxs (b + 1) l) :: layL f (b + 1) l := rfl
theorem layL_nil (b : Nat) : layL f b [] = [] := rfl
theorem layL_cons (b : Nat) (t : Arb α) (l : List (Arb α)) : layL f b (t :: l) = lay f b t ++ layL f (b + t.size) l := rfl
theorem layL_app (b : Nat) (l m : List (Arb α)) : layL f b (l ++ m) = layL f b l ++ layL f (b + sizeL l) m := by
  induction l generalizing b with
  | nil => simp [layL_nil, sizeL_nil]
  | cons t l ih => rw [List.cons_append, layL_cons, layL_cons, ih, sizeL_cons, List.append_assoc, Nat.add_assoc]
theorem layL_len_of {l : List (Arb α)} (h : ∀ x ∈ l, ∀ b, (lay f b x).length = x.size) (b : Nat) : (layL f b l).length = sizeL l := by
  induction l generalizing b with
  | nil => rfl
  | cons t l ih => rw [layL_cons, List.length_append, sizeL_cons, h t (by simp), ih (fun x hx => h x (by simp [hx]))]
theorem lay_len : ∀ (t : Arb α) (b : Nat), (lay f b t).length = t.size := fun t => by
  induction t using ind with
  | h a l ih => intro b; rw [lay_mk, List.length_cons, layL_len_of ih, size_mk]; omega
theorem layL_len (b : Nat) (l : List (Arb α)) : (layL f b l).length = sizeL l := layL_len_of (fun x _ b => lay_len x b) b
def At (f : α → List Int → N) (xs : List N) (m : Nat) (t : Arb α) : Prop := ∃ post, xs.drop m = lay f m t ++ post
def AtL (f : α → List Int → N) (xs : List N) (m : Nat) (l : List (Arb α)) : Prop := ∃ post, xs.drop m = layL f m l ++ post
theorem At.bd {xs : List N} {m : Nat} {t : Arb α} (h : At f xs m t) : m + t.size ≤ xs.length := by
  obtain ⟨p, h⟩ := h
  have := congrArg List.length h
  rw [List.length_drop, List.length_append, lay_len] at this
  have := size_pos t
  omega
theorem At.root {xs : List N} {m : Nat} {x : α} {l : List (Arb α)} (h : At f xs m (.mk x l)) : xs[m]? = some (f x (idxs (m + 1) l)) := by
  obtain ⟨p, h⟩ := h
  rw [lay_mk, List.cons_append] at h
  have : (xs.drop m)[0]? = some (f x (idxs (m + 1) l)) := by rw [h]; rfl
  rw [List.getElem?_drop, Nat.add_zero] at this
  exact this
theorem At.lt {xs : List N} {m : Nat} {t : Arb α} (h : At f xs m t) : m < xs.length := by
  have := h.bd; have := size_pos t; omega
theorem At.kids {xs : List N} {m : Nat} {x : α} {l : List (Arb α)} (h : At f xs m (.mk x l)) : AtL f xs (m + 1) l := by
  obtain ⟨p, h⟩ := h
  rw [lay_mk, List.cons_append] at h
  refine ⟨p, ?_⟩
  have := congrArg (List.drop 1) h
  rw [List.drop_drop, List.drop_succ_cons, List.drop_zero] at this
  exact this
theorem AtL.head {xs : List N} {m : Nat} {t : Arb α} {l : List (Arb α)} (h : AtL f xs m (t :: l)) : At f xs m t := by
  obtain ⟨p, h⟩ := h
  rw [layL_cons, List.append_assoc] at h
  exact ⟨_, h⟩
theorem AtL.tail {xs : List N} {m : Nat} {t : Arb α} {l : List (Arb α)} (h : AtL f xs m (t :: l)) : AtL f xs (m + t.size) l := by
  obtain ⟨p, h⟩ := h
  rw [layL_cons, List.append_assoc] at h
  refine ⟨p, ?_⟩
  have := congrArg (List.drop t.size) h
  rw [List.drop_drop, ← lay_len (f := f) t m, List.drop_left] at this
  rw [lay_len] at this
  exact this
theorem AtL.at {xs : List N} : ∀ {l : List (Arb α)} {m : Nat} (i : Nat) (hi : i < l.length), AtL f xs m l → At f xs (m + sizeL (l.take i)) l[i]
  | t :: l, m, 0, hi, h => by simpa [sizeL_nil] using h.head
  | t :: l, m, i + 1, hi, h => by
    have := AtL.at i (by simpa using hi) h.tail
    simpa [sizeL_cons, Nat.add_assoc] using this
theorem At.zero (t : Arb α) : At f (lay f 0 t) 0 t := ⟨[], by simp⟩
theorem At.whole {xs : List N} {t : Arb α} (h : At f xs 0 t) (hl : t.size = xs.length) : xs = lay f 0 t := by
  obtain ⟨p, h⟩ := h
  rw [List.drop_zero] at h
  have h2 := congrArg List.length h
  rw [List.length_append, lay_len] at h2
  have : p = [] := List.eq_nil_of_length_eq_zero (by omega)
  rw [h, this, List.append_nil]
/-! ### a list in the walk's order is a tree -/
variable {ks : N → List Int} {inf : N → α}
theorem grow_ex (hf : ∀ x, f (inf x) (ks x) = x) (xs : List N) : ∀ (n m e : Nat), pEnd (xs.map ks) n m = some e → ∃ t : Arb α, t.size = e - m ∧ At f xs m t
  | 0, m, e, h => by cases h
  | n + 1, m, e, h => by
    have hm : m < xs.length := by
      rcases Nat.lt_or_ge m xs.length with q | q
      · exact q
      · rw [pEnd_out _ _ _ (by simpa using q)] at h; cases h
    rw [pEnd_at _ _ _ (by simpa using hm), List.getElem_map] at h
    have key : ∀ (l : List Int) (m e : Nat), m ≤ xs.length → pKids (pEnd (xs.map ks) n) l m = some e → ∃ ts : List (Arb α), sizeL ts = e - m ∧ AtL f xs m ts ∧ idxs m ts = l ∧ m ≤ e ∧ e ≤ xs.length := by
      intro l
      induction l with
      | nil =>
        intro m e hm h
        have h' : some m = some e := h
        injection h' with h'
        subst h'
        exact ⟨[], by simp [sizeL_nil], ⟨xs.drop m, by simp [layL_nil]⟩, rfl, Nat.le_refl _, hm⟩
      | cons k l ih =>
        intro m e hm h
        rw [pKids] at h
        split at h
        · rename_i hk
          cases hc : pEnd (xs.map ks) n m with
          | none => rw [hc] at h; cases h
          | some e1 =>
            rw [hc] at h
            have hb := pEnd_bd _ _ _ _ hc
            rw [List.length_map] at hb
            obtain ⟨t, h1, h2⟩ := grow_ex hf xs n m e1 hc
            obtain ⟨ts, h3, h4, h5, h6, h7⟩ := ih e1 e hb.2 h
            have he : e1 = m + t.size := by omega
            refine ⟨t :: ts, by rw [sizeL_cons]; omega, ?_, by rw [idxs, hk, ← he, h5], by omega, h7⟩
            obtain ⟨p1, q1⟩ := h2
            obtain ⟨p2, q2⟩ := h4
            refine ⟨p2, ?_⟩
            have := congrArg (List.drop t.size) q1
            rw [List.drop_drop, ← he, ← lay_len (f := f) t m, List.drop_left, q2] at this
            rw [layL_cons, List.append_assoc, ← he, this, q1]
        · cases h
    obtain ⟨ts, h3, h4, h5, h6, h7⟩ := key _ (m + 1) e (by omega) h
    refine ⟨.mk (inf xs[m]) ts, by rw [size_mk]; omega, ?_⟩
    obtain ⟨p, q⟩ := h4
    refine ⟨p, ?_⟩
    rw [lay_mk, List.drop_eq_getElem_cons hm, q, h5, hf]; rfl
theorem grow_all (hf : ∀ x, f (inf x) (ks x) = x) {xs : List N} (h : orderM (xs.map ks) = true) : ∃ t : Arb α, xs = lay f 0 t := by
  unfold orderM at h
  have he : pEnd (xs.map ks) (xs.map ks).length 0 = some (xs.map ks).length := by simpa using h
  obtain ⟨t, h1, h2⟩ := grow_ex hf xs _ _ _ he
  exact ⟨t, h2.whole (by rw [List.length_map] at h1; omega)⟩
/-! ### and a tree that lies in a list lies in the walk's order -/
theorem pEnd_lay (hk : ∀ x l, ks (f x l) = l) {xs : List N} : ∀ (t : Arb α) (m n : Nat), At f xs m t → t.size ≤ n → pEnd (xs.map ks) n m = some (m + t.size) := fun t => by
  induction t using ind with
  | h a l ih =>
    intro m n h hn
    rw [size_mk] at hn
    obtain ⟨n, rfl⟩ : ∃ q, n = q + 1 := ⟨n - 1, by omega⟩
    have hr := h.root
    obtain ⟨hm, hr⟩ := List.getElem?_eq_some_iff.1 hr
    rw [pEnd_at _ _ _ (by simpa using hm), List.getElem_map, hr, hk]
    have key : ∀ (l : List (Arb α)), (∀ x ∈ l, ∀ (m n : Nat), At f xs m x → x.size ≤ n → pEnd (xs.map ks) n m = some (m + x.size)) → ∀ m, AtL f xs m l → sizeL l ≤ n → pKids (pEnd (xs.map ks) n) (idxs m l) m = some (m + sizeL l) := by
      intro l
      induction l with
      | nil => intro _ m _ _; rfl
      | cons t l il =>
        intro ih m h hn
        rw [sizeL_cons] at hn
        rw [idxs, pKids, if_pos rfl, ih t (by simp) m n h.head (by omega), Option.bind_some, il (fun x hx => ih x (by simp [hx])) _ h.tail (by omega), sizeL_cons, Nat.add_assoc]
    rw [key l ih (m + 1) h.kids (by omega), size_mk]
    congr 1; omega
theorem order_lay (hk : ∀ x l, ks (f x l) = l) (t : Arb α) : orderM ((lay f 0 t).map ks) = true := by
  unfold orderM
  rw [pEnd_lay hk t 0 _ (At.zero t) (by rw [List.length_map, lay_len]; exact Nat.le_refl _), List.length_map, lay_len, Nat.zero_add]
  simp
/-! ### what lies the same is the same -/
theorem lay_inj (hi : ∀ x y k l, f x k = f y l → x = y ∧ k = l) : ∀ (t t' : Arb α) (b : Nat) (r r' : List N), lay f b t ++ r = lay f b t' ++ r' → t = t' ∧ r = r' := fun t => by
  induction t using ind with
  | h a l ih =>
    intro t' b r r' h
    obtain ⟨a', l'⟩ := t'
    rw [lay_mk, lay_mk, List.cons_append, List.cons_append] at h
    obtain ⟨h1, h2⟩ := List.cons.inj h
    obtain ⟨rfl, hx⟩ := hi _ _ _ _ h1
    have hlen := congrArg List.length hx
    rw [idxs_len, idxs_len] at hlen
    have key : ∀ (l l' : List (Arb α)), l.length = l'.length → (∀ x ∈ l, ∀ (t' : Arb α) (b : Nat) (r r' : List N), lay f b x ++ r = lay f b t' ++ r' → x = t' ∧ r = r') → ∀ b, layL f b l ++ r = layL f b l' ++ r' → l = l' ∧ r = r' := by
      intro l
      induction l with
      | nil =>
        intro l' hl _ b h
        have : l' = [] := List.eq_nil_of_length_eq_zero (by simpa using hl.symm)
        subst this
        exact ⟨rfl, h⟩
      | cons t l il =>
        intro l' hl ih b h
        cases l' with
        | nil => simp at hl
        | cons t' l' =>
          rw [layL_cons, layL_cons, List.append_assoc, List.append_assoc] at h
          obtain ⟨rfl, h'⟩ := ih t (by simp) t' b _ _ h
          obtain ⟨rfl, h''⟩ := il l' (by simpa using hl) (fun x hx => ih x (by simp [hx])) _ h'
          exact ⟨rfl, h''⟩
    obtain ⟨rfl, h3⟩ := key l l' hlen ih _ h2
    exact ⟨rfl, h3⟩
theorem lay_inj0 (hi : ∀ x y k l, f x k = f y l → x = y ∧ k = l) {t t' : Arb α} (h : lay f 0 t = lay f 0 t') : t = t' := (lay_inj hi t t' 0 [] [] (by rw [List.append_nil, List.append_nil, h])).1
inductive All (P : α → List (Arb α) → Prop) : Arb α → Prop where
  | mk {x : α} {l : List (Arb α)} : P x l → (∀ t ∈ l, All P t) → All P (.mk x l)
theorem All.root {P : α → List (Arb α) → Prop} {x : α} {l : List (Arb α)} (h : All P (.mk x l)) : P x l := by cases h; assumption
theorem All.kid {P : α → List (Arb α) → Prop} {x : α} {l : List (Arb α)} (h : All P (.mk x l)) : ∀ t ∈ l, All P t := by cases h; assumption
theorem all_of {P : α → List (Arb α) → Prop} {xs : List N} : ∀ (t : Arb α) (m : Nat), At f xs m t → (∀ (j : Nat) (x : α) (l : List (Arb α)), At f xs j (.mk x l) → P x l) → All P t := fun t => by
  induction t using ind with
  | h a l ih =>
    intro m h hp
    refine .mk (hp m a l h) fun t ht => ?_
    obtain ⟨i, hi, rfl⟩ := List.getElem_of_mem ht
    exact ih _ ht _ (h.kids.at i hi) hp
theorem at_of {P : α → List (Arb α) → Prop} {xs : List N} : ∀ (t : Arb α) (m : Nat), At f xs m t → All P t → ∀ j, m ≤ j → j < m + t.size → ∃ x l, At f xs j (.mk x l) ∧ All P (.mk x l) := fun t => by
  induction t using ind with
  | h a l ih =>
    intro m h hp j h1 h2
    rcases Nat.eq_or_lt_of_le h1 with rfl | h1
    · exact ⟨a, l, h, hp⟩
    · rw [size_mk] at h2
      have key : ∀ (l : List (Arb α)), (∀ x ∈ l, ∀ (m : Nat), At f xs m x → All P x → ∀ j, m ≤ j → j < m + x.size → ∃ x l, At f xs j (.mk x l) ∧ All P (.mk x l)) → ∀ m, AtL f xs m l → (∀ t ∈ l, All P t) → m ≤ j → j < m + sizeL l → ∃ x l, At f xs j (.mk x l) ∧ All P (.mk x l) := by
        intro l
        induction l with
        | nil => intro _ m _ _ h1 h2; rw [sizeL_nil] at h2; omega
        | cons t l il =>
          intro ih m h hp h1 h2
          rw [sizeL_cons] at h2
          by_cases hj : j < m + t.size
          · exact ih t (by simp) m h.head (hp t (by simp)) j h1 hj
          · exact il (fun x hx => ih x (by simp [hx])) _ h.tail (fun x hx => hp x (by simp [hx])) (by omega) (by omega)
      exact key l ih (m + 1) h.kids hp.kid (by omega) (by omega)
end Arb
end Go.Proofs.YtgcdbmcoendcdaaGreat
