/- Parts of the proof, laid together: OrB, PaB. -/
import Derived.Deep.LoopGhost
import Derived.Deep.RegionLaw
import Derived.Deep.RegionWith
import Derived.Deep.Slices
import Derived.Laws.AppendOwn
import Derived.Laws.CopyRow
import Derived.Laws.Cover3
import Derived.Laws.EntriesVeiled
import Derived.Laws.Externs
import Derived.Laws.IdiomStrings
import Derived.Laws.StructEq
import Derived.Lib.AppendStr
import Derived.Lib.AppendZeros
import Derived.Lib.AppendZerosOnto
import Derived.Lib.Hide
import Derived.Lib.Overlaps
import Derived.ProofKit
import Derived.Test.YtmnokalddmlogaaGreatProg
import Derived.WalkKit
import Derived.Test.YtmnokalddmlogaaGreatP6
set_option linter.unusedSimpArgs false
set_option linter.unusedVariables false
set_option maxRecDepth 100000
set_option maxHeartbeats 8000000
namespace Go.Proofs.YtmnokalddmlogaaGreat
section
def yH (f : Nat -> Option Nat) : List Int -> Nat -> Option Nat
 | [], next => some next
 | k :: l, next => if k = (next : Int) then (f next).bind (yH f l) else none
def pEnd (ks : List (List Int)) : Nat -> Nat -> Option Nat
 | 0, _ => none
 | n + 1, at_ => (ks[at_]?).bind fun l => yH (pEnd ks n) l (at_ + 1)
def x7 (ks : List (List Int)) (n : Nat) (i : Int) (m : Nat) : Option Nat := if i = (m : Int) then pEnd ks n m else none
def xL (ks : List (List Int)) : Bool := pEnd ks ks.length 0 == some ks.length
theorem wT (ks : List (List Int)) (n : Nat) (k : Int) (l : List Int) (m : Nat) : yH (pEnd ks n) (k :: l) m = (x7 ks n k m).bind (yH (pEnd ks n) l) := by
 unfold x7
 rw [yH]
 split <;> rfl
theorem Ql (f : Nat -> Option Nat) (N : Nat) (hf : ∀ m e, f m = some e -> m < e /\ e <= N) : ∀ (l : List Int) (m e : Nat), m <= N -> yH f l m = some e -> m <= e /\ e <= N
 | [], m, e, hm, h => by
  have h' : some m = some e := h
  injection h' with h'; omega
 | k :: l, m, e, hm, h => by
  rw [yH] at h
  split at h
  ·cases hc : f m with
   | none => rw [hc] at h; cases h
   | some e1 =>
    rw [hc] at h
    have := hf m e1 hc
    have := Ql f N hf l e1 e this.2 h
    omega
  ·cases h
theorem Xr (ks : List (List Int)) : ∀ (n m e : Nat), pEnd ks n m = some e -> m < e /\ e <= ks.length
 | 0, m, e, h => by cases h
 | n + 1, m, e, h => by
  rw [pEnd] at h
  cases hl : ks[m]? with
  | none => rw [hl] at h; cases h
  | some l =>
   rw [hl] at h
   have hm : m < ks.length := by
    rcases Nat.lt_or_ge m ks.length with q | q
    ·exact q
    ·rw [List.getElem?_eq_none q] at hl; cases hl
   have := Ql (pEnd ks n) ks.length (Xr ks n) l (m + 1) e hm h
   omega
theorem Z9 {ks : List (List Int)} {n : Nat} {i : Int} {m e : Nat} (h : x7 ks n i m = some e) : i = m /\ m < e /\ e <= ks.length := by
 unfold x7 at h
 split at h
 ·rename_i hi
  have := Xr ks n m e h
  exact ⟨hi, this⟩
 ·cases h
theorem Xq (ks : List (List Int)) (n m : Nat) (h : m < ks.length) : pEnd ks (n + 1) m = yH (pEnd ks n) ks[m] (m + 1) := by
 rw [pEnd, List.getElem?_eq_getElem h]; rfl
theorem vB (ks : List (List Int)) (n m : Nat) (h : ks.length <= m) : pEnd ks n m = none := by
 cases n with
 | zero => rfl
 | succ n => rw [pEnd, List.getElem?_eq_none h]; rfl
def endZ (o : Option Nat) : Int := match o with | none => -1 | some e => (e : Int)
theorem ZK (o : Option Nat) (n : Nat) : (endZ o == (n : Int)) = (o == some n) := by
 cases o with
 | none => simp [endZ]
 | some e =>
  simp only [endZ]
  by_cases h : e = n
  ·subst h; simp
  ·have : ¬ (e : Int) = n := by omega
   have a : ((e : Int) == (n : Int)) = false := beq_eq_false_iff_ne.mpr this
   have b : (some e == some n) = false := beq_eq_false_iff_ne.mpr (by simpa using h)
   rw [a, b]
theorem Yu {α : Type} (l : List α) (j : Nat) (h : j < l.length) : l.drop j = l[j] :: l.drop (j + 1) := List.drop_eq_getElem_cons h
end
section
open Go.RowKit
def intR (_ : Hp) (r : List Value) (x : Int) : Prop := r = [.int .i64 x] /\ I64 x
abbrev IntS (h : Hp) (v : Value) (xs : List Int) : Prop := SlOf 1 intR h v xs
theorem IntS.mono {h h' : Hp} {v : Value} {xs : List Int} (q : IntS h v xs) (l : HLe h h') : IntS h' v xs := SlOf.le q l fun _ _ _ q => q
theorem IntS.mem {h : Hp} {v : Value} {xs : List Int} (q : IntS h v xs) : ∀ x ∈ xs, I64 x := by
 obtain ⟨a, c, _, _, _, r⟩ := q
 intro x hx
 rcases r with rfl | ⟨b, off, _, hc⟩
 ·cases hx
 ·obtain ⟨i, hi, rfl⟩ := List.getElem_of_mem hx
  obtain ⟨_, _, _, hr⟩ := hc i hi
  exact hr.2
theorem IntS.cell {h : Hp} {a : Option Addr} {n c : Nat} {xs : List Int} (q : IntS h (.slice a n c) xs) {i : Nat} (hi : i < xs.length) :
  ∃ b off, a = some ⟨b, off, none⟩ /\ ∀ j (hj : j < xs.length), ∀ w : World, Sub h w -> w.cell? ⟨b, off + j, none⟩ = some (.int .i64 xs[j]) := by
 obtain ⟨a', c', e, _, _, r⟩ := q
 injection e with e1 e2 e3
 subst e1
 rcases r with rfl | ⟨b, off, ea, hc⟩
 ·simp at hi
 ·refine ⟨b, off, ea, fun j hj w hw => ?_⟩
  obtain ⟨r, hr1, hr2, hr3⟩ := hc j hj
  rw [hr3.1, Nat.mul_one] at hr2
  exact hr2.cell hw (i := 0) (by simp)
theorem set_selfP {w : World} {b o : Nat} {x : Value} (h : w.cell? ⟨b, o, none⟩ = some x) (y : Value) : (w.setCell ⟨b, o, none⟩ y).cell? ⟨b, o, none⟩ = some y := by
 unfold World.cell? at h
 split at h
 ·rename_i c e fr he
  have hh : (w.setCell ⟨b, o, none⟩ y).heap[b]? = some (.cells (c.setIfInBounds o y) e fr) := by
   simp only [World.setCell, Array.getElem?_modify, if_true, he, Option.map_some]
   rw [if_neg (by simp)]
  unfold World.cell?
  rw [hh]
  simp only at h ⊢
  rw [if_neg (by simp)] at h ⊢
  have hlt : o < c.size := by
   rcases Nat.lt_or_ge o c.size with q | q
   ·exact q
   ·rw [Array.getElem?_eq_none q] at h; cases h
  simp [hlt]
 ·cases h
theorem xaG {w : World} {b o b' o' : Nat} (y : Value) (_ : True) (h : b' ≠ b) : (w.setCell ⟨b, o, none⟩ y).cell? ⟨b', o', none⟩ = w.cell? ⟨b', o', none⟩ := by
 unfold World.cell?
 rw [Below.heap_setCell _ _ _ _ (by exact h)]
theorem beq_someP (a b : Nat) : ((a : Int) == (b : Int)) = (some a == some b) := ZK (some a) b
def KidQ (h : Hp) (w : World) (l : List Int) (e : Ending) (w' : World) : Prop := ∃ v, e = .returned v /\ IntS h v l /\ Below w.heap.size w w'
def WalkQ (R : Option Nat) (w0 : World) (B : Nat) (W : Value) (e : Ending) (w' : World) : Prop :=
 Below w0.heap.size w0 w' /\ ((R = none /\ e = .returned (.bool false)) \/ ∃ e1 : Nat, R = some e1 /\ e = .returned (.bool true) /\ w'.cell? ⟨B, 0, none⟩ = some (.int .i64 e1) /\ w'.frozen? ⟨B, 0, none⟩ = false /\ w'.cell? ⟨B + 1, 0, none⟩ = some W)
def KidR (k c : Nat) (h : Hp) (r : List Value) (l : List Int) : Prop := r.length = k /\ ∃ u, r[c]? = some u /\ IntS h u l
abbrev KidsAt (k c : Nat) (h : Hp) (v : Value) (ks : List (List Int)) : Prop := SlOf k (KidR k c) h v ks
theorem KidsAt.cell {k c : Nat} {h : Hp} {a : Option Addr} {n m : Nat} {ks : List (List Int)} (q : KidsAt k c h (.slice a n m) ks) {i : Nat} (hi : i < ks.length) :
  ∃ b off, a = some ⟨b, off, none⟩ /\ ∀ j (hj : j < ks.length), ∃ v1 : Value, IntS h v1 ks[j] /\ ∀ w : World, Sub h w -> w.cell? ⟨b, off + j * k + c, none⟩ = some v1 := by
 obtain ⟨a', c', e, -, -, h0 | ⟨b, off, ea, hc⟩⟩ := q
 ·subst h0; cases hi
 ·injection e with e1 e2 e3
  refine ⟨b, off, e1.trans ea, fun j hj => ?_⟩
  obtain ⟨r, r1, r2, r4, u, hu, r3⟩ := hc j hj
  obtain ⟨hlt, he⟩ := List.getElem?_eq_some_iff.1 hu
  exact ⟨u, r3, fun w hw => by rw [r2.cell hw (i := c) hlt, he]⟩
theorem node_walk (w0 : World) (ks : List (List Int)) (hl : ks.length <= 1000000000) (hks : ∀ k (h : k < ks.length), ks[k].length <= 1000000000) (K : FuncId) (cap : Value) (hEnt : ∀ vs w, (callFunc K vs).run Tryz.prog w = .ok (.enter K vs) w) (hKid : ∀ w, Below w0.heap.size w0 w -> ∀ m (hm : m < ks.length), Calls Tryz.prog K #[.int .i64 m, cap] w fun e w' => KidQ (hp w0) w ks[m] e w') (Bn Bk : Nat) (hN : w0.cell? ⟨Bn, 0, none⟩ = some (.int .i64 ks.length)) (hK : w0.cell? ⟨Bk, 0, none⟩ = some (.func (.func K) #[] #[cap]))
  :
  ∀ (n : Nat) (w : World) (i : Int) (m : Nat) (hi : I64 i) (hb : Below w0.heap.size w0 w) (hn : ks.length - m <= n) (c0 : w.cell? ⟨w0.heap.size, 0, none⟩ = some (.int .i64 m)) (f0 : w.frozen? ⟨w0.heap.size, 0, none⟩ = false) (c1 : w.cell? ⟨w0.heap.size + 1, 0, none⟩ = some (.func (.func 145) #[] #[.pointer (some ⟨w0.heap.size, 0, none⟩), .pointer (some ⟨Bn, 0, none⟩), .pointer (some ⟨Bk, 0, none⟩), .pointer (some ⟨w0.heap.size + 1, 0, none⟩)])),
  Calls Tryz.prog 145 #[.int .i64 i, .pointer (some ⟨w0.heap.size, 0, none⟩), .pointer (some ⟨Bn, 0, none⟩), .pointer (some ⟨Bk, 0, none⟩), .pointer (some ⟨w0.heap.size + 1, 0, none⟩)] w fun e w' => WalkQ (x7 ks n i m) w0 w0.heap.size (.func (.func 145) #[] #[.pointer (some ⟨w0.heap.size, 0, none⟩), .pointer (some ⟨Bn, 0, none⟩), .pointer (some ⟨Bk, 0, none⟩), .pointer (some ⟨w0.heap.size + 1, 0, none⟩)]) e w' := by
 have HKID := Lib.hid hKid
 have hBk : Bk < w0.heap.size := World.block_lt_of_cell? _ _ hK
 have hBn : Bn < w0.heap.size := World.block_lt_of_cell? _ _ hN
 clear hKid
 have out : ∀ (n : Nat) (w : World) (i : Int) (m : Nat) (hi : I64 i) (hb : Below w0.heap.size w0 w) (c0 : w.cell? ⟨w0.heap.size, 0, none⟩ = some (.int .i64 m)) (hbad : ¬ (i = (m : Int) /\ m < ks.length)),
   Calls Tryz.prog 145 #[.int .i64 i, .pointer (some ⟨w0.heap.size, 0, none⟩), .pointer (some ⟨Bn, 0, none⟩), .pointer (some ⟨Bk, 0, none⟩), .pointer (some ⟨w0.heap.size + 1, 0, none⟩)] w fun e w' => WalkQ (x7 ks n i m) w0 w0.heap.size (.func (.func 145) #[] #[.pointer (some ⟨w0.heap.size, 0, none⟩), .pointer (some ⟨Bn, 0, none⟩), .pointer (some ⟨Bk, 0, none⟩), .pointer (some ⟨w0.heap.size + 1, 0, none⟩)]) e w' := by
  intro n w i m hi hb c0 hbad
  unfold I64 at hi
  have kN := zV hb hN
  have HR : x7 ks n i m = none := by
   unfold x7
   split
   ·rename_i e
    exact vB _ _ _ (by rcases Nat.lt_or_ge m ks.length with q | q; exact absurd ⟨e, q⟩ hbad; exact q)
   ·rfl
  rw [HR]
  clear HR
  by_cases him : i = m
  ·subst him
   have hge : ¬ m < ks.length := fun q => hbad ⟨rfl, q⟩
   clear hbad
   go_enter Tryz.func145, Tryz.ntmps145
   go_wp2_with fail
   go_ret
   exact ⟨hb, .inl ⟨rfl, rfl⟩⟩
  ·clear hbad
   go_enter Tryz.func145, Tryz.ntmps145
   go_wp2_with fail
   go_ret
   exact ⟨hb, .inl ⟨rfl, rfl⟩⟩
 have OUT := Lib.hid out
 clear out
 intro n
 induction n with
 | zero =>
  intro w i m hi hb hn c0 f0 c1
  exact OUT.out 0 w i m hi hb c0 (by omega)
 | succ n ih =>
  intro w i m hi hb hn c0 f0 c1
  by_cases hin : i = (m : Int) /\ m < ks.length
  ·obtain ⟨him, hlt⟩ := hin
   subst him
   have kN := zV hb hN
   have kK := zV hb hK
   have IH := Lib.hid ih
   have HR : x7 ks (n + 1) m m = yH (pEnd ks n) ks[m] (m + 1) := by
    unfold x7
    rw [if_pos rfl, Xq _ _ _ hlt]
   obtain ⟨R, hR⟩ : ∃ R, x7 ks (n + 1) m m = R := ⟨_, rfl⟩
   rw [hR]
   rw [hR] at HR
   have HRR := Lib.hid HR
   clear hR HR ih
   have hb1 := hb.setCell (p := ⟨w0.heap.size, 0, none⟩) (Nat.le_refl _) (.int .i64 ((m : Int) + 1))
   have KK := Lib.hid (HKID.out _ hb1 m hlt)
   have HB1 := Lib.hid hb1
   have hx : w0.heap.size < w.heap.size := World.block_lt_of_cell? _ _ c0
   have hxx : w0.heap.size + 1 < w.heap.size := World.block_lt_of_cell? _ _ c1
   clear hb1
   go_enter Tryz.func145, Tryz.ntmps145
   go_wp2_with fail
   refine KK.out.mono ?_
   rintro e w1 ⟨v1, rfl, hv1, hb2⟩
   have d0 : w1.cell? ⟨w0.heap.size, 0, none⟩ = some (.int .i64 ((m + 1 : Nat) : Int)) := by
    rw [(bcell hb2).1 _ _ (by simp <;> omega)]; exact set_selfP c0 _
   have d1 : w1.frozen? ⟨w0.heap.size, 0, none⟩ = false := by
    rw [(bcell hb2).2 _ _ (by simp <;> omega)]; exact (World.frozen?_setCell _ _ _ _).trans f0
   have d2 : w1.cell? ⟨w0.heap.size + 1, 0, none⟩ = some (.func (.func 145) #[] #[.pointer (some ⟨w0.heap.size, 0, none⟩), .pointer (some ⟨Bn, 0, none⟩), .pointer (some ⟨Bk, 0, none⟩), .pointer (some ⟨w0.heap.size + 1, 0, none⟩)]) := by
    rw [(bcell hb2).1 _ _ (by simp <;> omega)]; exact (xaG _ trivial (by omega)).trans c1
   have hb3 := zA hb2 HB1.out HB1.out.size
   clear c0 f0 c1 kN kK
   have HV1 := Lib.hid hv1
   have hm1 := Lib.hid hv1.mem
   obtain ⟨a, c, rfl, hc1, hc2, -⟩ := hv1
   unfold maxLen at hc2
   have hll : ks[m].length <= 1000000000 := hks m hlt
   have HB3 := Lib.hid hb3
   have D0 := Lib.hid d0
   have D1 := Lib.hid d1
   have D2 := Lib.hid d2
   clear hb3 d0 d1 d2
   go_wp2_with fail
   go_loopw [8, 23] (fun q i wr => ∃ (j cur : Nat), j <= ks[m].length /\ i = .int .i64 j /\ m < cur /\ yH (pEnd ks n) (ks[m].drop j) cur = R /\ wr.cell? ⟨w0.heap.size, 0, none⟩ = some (.int .i64 cur) /\ wr.frozen? ⟨w0.heap.size, 0, none⟩ = false /\ wr.cell? ⟨w0.heap.size + 1, 0, none⟩ = some (.func (.func 145) #[] #[.pointer (some ⟨w0.heap.size, 0, none⟩), .pointer (some ⟨Bn, 0, none⟩), .pointer (some ⟨Bk, 0, none⟩), .pointer (some ⟨w0.heap.size + 1, 0, none⟩)]) /\ Below w0.heap.size w0 wr) (fun _ i _ => ks[m].length - (intOf i).toNat)
   case atStart => exact ⟨0, m + 1, by omega, rfl, by omega, by rw [HRR.out]; rfl, D0.out, D1.out, D2.out, HB3.out⟩
   case round =>
    obtain ⟨j, cur, hj, rfl, hcur, hp, g0, g1, g2, hbel⟩ := hrel
    have HP := Lib.hid hp
    clear hp
    by_cases hjl : j < ks[m].length
    ·obtain ⟨b, off, rfl, hcell⟩ := HV1.out.cell hjl
     have hc := hcell j hjl wr ((Sub.self w0).below hbel)
     have hki := Lib.hid (hm1.out _ (List.getElem_mem hjl))
     have KI := Lib.hid (IH.out wr ks[m][j] cur hki.out hbel (by omega) g0 g1 g2)
     have HQ : (x7 ks n ks[m][j] cur).bind (yH (pEnd ks n) (ks[m].drop (j + 1))) = R := by
      rw [<- HP.out, Yu _ j hjl, wT]
     have HQQ := Lib.hid HQ
     clear HQ hcell g0 g1
     go_wp2_with fail
     refine KI.out.mono ?_
     rintro e w2 ⟨hb4, (⟨hn1, rfl⟩ | ⟨e1, hs1, rfl, g0', g1', g2'⟩)⟩
     ·have HE : R = none := by rw [<- HQQ.out, hn1]; rfl
      have HEE := Lib.hid HE
      clear HE hn1
      go_wp2_with fail
      go_ret
      exact ⟨hb4, .inl ⟨HEE.out, rfl⟩⟩
     ·have hgt := Z9 hs1
      have HE : yH (pEnd ks n) (ks[m].drop (j + 1)) e1 = R := by rw [<- HQQ.out, hs1]; rfl
      have HEE := Lib.hid HE
      have G0 := Lib.hid g0'
      have G1 := Lib.hid g1'
      have G2 := Lib.hid g2'
      clear HE hs1 g0' g1' g2'
      go_wp2_with fail
      refine ⟨⟨j + 1, e1, by omega, by go_num, by omega, HEE.out, G0.out, G1.out, G2.out, hb4⟩, ?_⟩
      simp [intOf]; omega
    ·have HE : R = some cur := by
      rw [<- HP.out, List.drop_eq_nil_of_le (by omega)]; rfl
     have HEE := Lib.hid HE
     have G0 := Lib.hid g0
     have G1 := Lib.hid g1
     have G2 := Lib.hid g2
     clear HE g0 g1 g2
     go_wp2_with fail
     go_ret
     exact ⟨hbel, .inr ⟨cur, HEE.out, rfl, G0.out, G1.out, G2.out⟩⟩
  ·exact OUT.out (n + 1) w i m hi hb c0 hin
theorem Qj (w : World) (ks : List (List Int)) (hl : ks.length <= 1000000000) (hks : ∀ k (h : k < ks.length), ks[k].length <= 1000000000) (K : FuncId) (cap : Value) (hEnt : ∀ vs w, (callFunc K vs).run Tryz.prog w = .ok (.enter K vs) w) (hKid : ∀ w1, Below w.heap.size w w1 -> ∀ m (hm : m < ks.length), Calls Tryz.prog K #[.int .i64 m, cap] w1 fun e w' => KidQ (hp w) w1 ks[m] e w') :
  Calls Tryz.prog 95 #[.int .i64 ks.length, .func (.func K) #[] #[cap]] w fun e w' => e = .returned (.bool (xL ks)) /\ Below w.heap.size w w' := by
 obtain ⟨w0, hw0⟩ : ∃ w0, w0 = (w.alloc (.cells #[.int .i64 ks.length] 3)).alloc (.cells #[.func (.func K) #[] #[cap]] 176) := ⟨_, rfl⟩
 have b0 : Below w.heap.size w w0 := by rw [hw0]; exact (by repeat (first | with_reducible exact Below.refl _ _ | with_reducible assumption | with_reducible refine Below.setCell ?_ ?_ _ | with_reducible refine Below.alloc ?_ ?_ _ | with_reducible refine Below.drew ?_ | (with_reducible apply zA; with_reducible assumption) | exact Nat.le_refl _ | omega | (simp <;> omega)))
 have z0 : w0.heap.size = w.heap.size + 1 + 1 := by rw [hw0]; simp
 have n0 : w0.cell? ⟨w.heap.size, 0, none⟩ = some (.int .i64 ks.length) := by rw [hw0]; exact zV ((Below.refl _ _).alloc (Nat.le_refl _) _) (vX _ _ _)
 have n1 : w0.cell? ⟨w.heap.size + 1, 0, none⟩ = some (.func (.func K) #[] #[cap]) := by
  have q := vX (w.alloc (.cells #[.int .i64 ks.length] 3)) (.func (.func K) #[] #[cap]) 176
  rw [hw0]
  rwa [show (w.alloc (.cells #[.int .i64 ks.length] 3)).heap.size = w.heap.size + 1 by simp] at q
 have q0 : (w0.alloc (.cells #[.int .i64 0] 3)).heap.size = w0.heap.size + 1 := by simp
 have m0 := zV ((Below.refl (w0.alloc (.cells #[.int .i64 0] 3)).heap.size _).alloc (Nat.le_refl _) (.cells #[.func (.func 145) #[] #[.pointer (some ⟨w0.heap.size, 0, none⟩), .pointer (some ⟨w.heap.size, 0, none⟩), .pointer (some ⟨w.heap.size + 1, 0, none⟩), .pointer (some ⟨w0.heap.size + 1, 0, none⟩)]] 230)) (vX w0 (.int .i64 0) 3)
 have m1 := vX (w0.alloc (.cells #[.int .i64 0] 3)) (.func (.func 145) #[] #[.pointer (some ⟨w0.heap.size, 0, none⟩), .pointer (some ⟨w.heap.size, 0, none⟩), .pointer (some ⟨w.heap.size + 1, 0, none⟩), .pointer (some ⟨w0.heap.size + 1, 0, none⟩)]) 230
 rw [q0] at m1
 have KW := node_walk w0 ks hl hks K cap hEnt (fun w1 hb1 m hm => (hKid w1 (b0.trans (hb1.mono b0.size)) m hm).mono fun e w2 ⟨u, e1, h1, h2⟩ => ⟨u, e1, h1.mono ((Sub.self w).below b0).hle, h2⟩) w.heap.size (w.heap.size + 1) n0 n1 ks.length ((w0.alloc (.cells #[.int .i64 0] 3)).alloc (.cells #[.func (.func 145) #[] #[.pointer (some ⟨w0.heap.size, 0, none⟩), .pointer (some ⟨w.heap.size, 0, none⟩), .pointer (some ⟨w.heap.size + 1, 0, none⟩), .pointer (some ⟨w0.heap.size + 1, 0, none⟩)]] 230)) 0 0 (by unfold I64; omega) (((Below.refl _ _).alloc (Nat.le_refl _) _).alloc (by simp) _) (by omega) m0 ((frozen?_alloc_cells _ _ _ _).trans ((frozen?_alloc_cells _ _ _ _).trans (by unfold World.frozen?; rw [Array.getElem?_eq_none (Nat.le_refl _)]))) m1
 have hR : x7 ks ks.length 0 0 = pEnd ks ks.length 0 := by unfold x7; rw [if_pos (by rfl)]
 rw [hR] at KW
 obtain ⟨R, hR2⟩ : ∃ R, pEnd ks ks.length 0 = R := ⟨_, rfl⟩
 have hM : xL ks = (R == some ks.length) := by
  rw [<- hR2]
  unfold xL
  rfl
 rw [hM]
 rw [hR2] at KW
 rw [hw0] at KW b0 n0
 have N0 := Lib.hid n0
 have hBN : w.heap.size < w.heap.size + 1 + 1 := by omega
 rw [show ((w.alloc (.cells #[.int .i64 ks.length] 3)).alloc (.cells #[.func (.func K) #[] #[cap]] 176)).heap.size = w.heap.size + 1 + 1 by simp] at KW
 have HK := Lib.hid KW
 have HB0 := Lib.hid b0
 clear KW m0 m1 q0 n0 n1 z0 b0 hM hR hR2 hKid hks
 clear hw0
 clear w0
 go_enter Tryz.func95, Tryz.ntmps95
 go_wp2_with fail
 refine HK.out.mono ?_
 rintro e w1 ⟨hb1, (⟨hn1, rfl⟩ | ⟨e1, hs1, rfl, g0, g1, g2⟩)⟩
 ·have HN := Lib.hid hn1
  clear hn1
  go_wp2_with fail
  go_ret
  exact ⟨yg (by rw [HN.out]; rfl), HB0.out.trans (hb1.mono (by simp <;> omega))⟩
 ·have HN := Lib.hid hs1
  clear hs1
  have g3 := (hb1.cell (p := ⟨w.heap.size, 0, none⟩) (by simp <;> omega)).trans N0.out
  go_wp2_with fail
  go_ret
  exact ⟨yg (by rw [HN.out]; exact beq_someP e1 ks.length), HB0.out.trans (hb1.mono (by simp <;> omega))⟩
end
section
inductive Arb (α : Type) where
 | mk (a : α) (kids : List (Arb α))
namespace Arb
variable {α N : Type}
def a : Arb α -> α | .mk a _ => a
def kids : Arb α -> List (Arb α) | .mk _ k => k
theorem eta (t : Arb α) : t = .mk t.a t.kids := by cases t; rfl
mutual
def size : Arb α -> Nat | .mk _ l => 1 + sizeL l
def sizeL : List (Arb α) -> Nat | [] => 0 | t :: l => size t + sizeL l
end
def idxs : Nat -> List (Arb α) -> List Int
 | _, [] => []
 | b, t :: l => (b : Int) :: idxs (b + t.size) l
mutual
def lay (f : α -> List Int -> N) : Nat -> Arb α -> List N
 | b, .mk a l => f a (idxs (b + 1) l) :: layL f (b + 1) l
def layL (f : α -> List Int -> N) : Nat -> List (Arb α) -> List N
 | _, [] => []
 | b, t :: l => lay f b t ++ layL f (b + t.size) l
end
theorem ind {P : Arb α -> Prop} (h : ∀ a l, (∀ x ∈ l, P x) -> P (.mk a l)) : ∀ t, P t := fun t =>
 Arb.rec (motive_1 := P) (motive_2 := fun l => ∀ x ∈ l, P x) (fun a l ih => h a l ih) (by simp) (fun t l h1 h2 => by simpa using ⟨h1, h2⟩) t
theorem size_mk (x : α) (l : List (Arb α)) : (Arb.mk x l).size = 1 + sizeL l := rfl
theorem sizeL_nil : sizeL ([] : List (Arb α)) = 0 := rfl
theorem sizeL_cons (t : Arb α) (l : List (Arb α)) : sizeL (t :: l) = t.size + sizeL l := rfl
theorem size_pos (t : Arb α) : 0 < t.size := by cases t; rw [size_mk]; omega
theorem sizeL_len (l : List (Arb α)) : l.length <= sizeL l := by
 induction l with
 | nil => exact Nat.le_refl _
 | cons t l ih => have := size_pos t; rw [sizeL_cons, List.length_cons]; omega
theorem idxs_len (b : Nat) (l : List (Arb α)) : (idxs b l).length = l.length := by
 induction l generalizing b with
 | nil => rfl
 | cons t l ih => rw [idxs, List.length_cons, List.length_cons, ih]
theorem idxs_at (b : Nat) (l : List (Arb α)) (i : Nat) (h : i < l.length) : (idxs b l)[i]'(by rw [idxs_len]; exact h) = ((b + sizeL (l.take i) : Nat) : Int) := by
 induction l generalizing b i with
 | nil => simp at h
 | cons t l ih =>
  cases i with
  | zero => simp [idxs, sizeL_nil]
  | succ i =>
   have := ih (b + t.size) i (by simpa using h)
   simp only [idxs, List.getElem_cons_succ, List.take_succ_cons, sizeL_cons]
   rw [this]; congr 1; omega
variable {f : α -> List Int -> N}
theorem lay_mk (b : Nat) (x : α) (l : List (Arb α)) : lay f b (.mk x l) = f x (idxs (b + 1) l) :: layL f (b + 1) l := rfl
theorem layL_nil (b : Nat) : layL f b [] = [] := rfl
theorem layL_cons (b : Nat) (t : Arb α) (l : List (Arb α)) : layL f b (t :: l) = lay f b t ++ layL f (b + t.size) l := rfl
theorem layL_len_of {l : List (Arb α)} (h : ∀ x ∈ l, ∀ b, (lay f b x).length = x.size) (b : Nat) : (layL f b l).length = sizeL l := by
 induction l generalizing b with
 | nil => rfl
 | cons t l ih => rw [layL_cons, List.length_append, sizeL_cons, h t (by simp), ih (fun x hx => h x (by simp [hx]))]
theorem lay_len : ∀ (t : Arb α) (b : Nat), (lay f b t).length = t.size := fun t => by
 induction t using ind with
 | h a l ih => intro b; rw [lay_mk, List.length_cons, layL_len_of ih, size_mk]; omega
def At (f : α -> List Int -> N) (xs : List N) (m : Nat) (t : Arb α) : Prop := ∃ post, xs.drop m = lay f m t ++ post
def AtL (f : α -> List Int -> N) (xs : List N) (m : Nat) (l : List (Arb α)) : Prop := ∃ post, xs.drop m = layL f m l ++ post
theorem At.bd {xs : List N} {m : Nat} {t : Arb α} (h : At f xs m t) : m + t.size <= xs.length := by
 obtain ⟨p, h⟩ := h
 have := congrArg List.length h
 rw [List.length_drop, List.length_append, lay_len] at this
 have := size_pos t
 omega
theorem At.root {xs : List N} {m : Nat} {x : α} {l : List (Arb α)} (h : At f xs m (.mk x l)) : xs[m]? = some (f x (idxs (m + 1) l)) := by
 obtain ⟨p, h⟩ := h
 rw [lay_mk, List.cons_append] at h
 have : (xs.drop m)[0]? = some (f x (idxs (m + 1) l)) := by rw [h]; rfl
 rw [List.getElem?_drop, Nat.add_zero] at this
 exact this
theorem At.lt {xs : List N} {m : Nat} {t : Arb α} (h : At f xs m t) : m < xs.length := by
 have := h.bd; have := size_pos t; omega
theorem At.kids {xs : List N} {m : Nat} {x : α} {l : List (Arb α)} (h : At f xs m (.mk x l)) : AtL f xs (m + 1) l := by
 obtain ⟨p, h⟩ := h
 rw [lay_mk, List.cons_append] at h
 refine ⟨p, ?_⟩
 have := congrArg (List.drop 1) h
 rw [List.drop_drop, List.drop_succ_cons, List.drop_zero] at this
 exact this
theorem AtL.head {xs : List N} {m : Nat} {t : Arb α} {l : List (Arb α)} (h : AtL f xs m (t :: l)) : At f xs m t := by
 obtain ⟨p, h⟩ := h
 rw [layL_cons, List.append_assoc] at h
 exact ⟨_, h⟩
theorem AtL.tail {xs : List N} {m : Nat} {t : Arb α} {l : List (Arb α)} (h : AtL f xs m (t :: l)) : AtL f xs (m + t.size) l := by
 obtain ⟨p, h⟩ := h
 rw [layL_cons, List.append_assoc] at h
 refine ⟨p, ?_⟩
 have := congrArg (List.drop t.size) h
 rw [List.drop_drop, <- lay_len (f := f) t m, List.drop_left] at this
 rw [lay_len] at this
 exact this
theorem AtL.at {xs : List N} : ∀ {l : List (Arb α)} {m : Nat} (i : Nat) (hi : i < l.length), AtL f xs m l -> At f xs (m + sizeL (l.take i)) l[i]
 | t :: l, m, 0, hi, h => by simpa [sizeL_nil] using h.head
 | t :: l, m, i + 1, hi, h => by
  have := AtL.at i (by simpa using hi) h.tail
  simpa [sizeL_cons, Nat.add_assoc] using this
theorem At.zero (t : Arb α) : At f (lay f 0 t) 0 t := ⟨[], by simp⟩
theorem At.whole {xs : List N} {t : Arb α} (h : At f xs 0 t) (hl : t.size = xs.length) : xs = lay f 0 t := by
 obtain ⟨p, h⟩ := h
 rw [List.drop_zero] at h
 have h2 := congrArg List.length h
 rw [List.length_append, lay_len] at h2
 have : p = [] := List.eq_nil_of_length_eq_zero (by omega)
 rw [h, this, List.append_nil]
variable {ks : N -> List Int} {inf : N -> α}
theorem grow_ex (hf : ∀ x, f (inf x) (ks x) = x) (xs : List N) : ∀ (n m e : Nat), pEnd (xs.map ks) n m = some e -> ∃ t : Arb α, t.size = e - m /\ At f xs m t
 | 0, m, e, h => by cases h
 | n + 1, m, e, h => by
  have hm : m < xs.length := by
   rcases Nat.lt_or_ge m xs.length with q | q
   ·exact q
   ·rw [vB _ _ _ (by simpa using q)] at h; cases h
  rw [Xq _ _ _ (by simpa using hm), List.getElem_map] at h
  have key : ∀ (l : List Int) (m e : Nat), m <= xs.length -> yH (pEnd (xs.map ks) n) l m = some e -> ∃ ts : List (Arb α), sizeL ts = e - m /\ AtL f xs m ts /\ idxs m ts = l /\ m <= e /\ e <= xs.length := by
   intro l
   induction l with
   | nil =>
    intro m e hm h
    have h' : some m = some e := h
    injection h' with h'
    subst h'
    exact ⟨[], by simp [sizeL_nil], ⟨xs.drop m, by simp [layL_nil]⟩, rfl, Nat.le_refl _, hm⟩
   | cons k l ih =>
    intro m e hm h
    rw [yH] at h
    split at h
    ·rename_i hk
     cases hc : pEnd (xs.map ks) n m with
     | none => rw [hc] at h; cases h
     | some e1 =>
      rw [hc] at h
      have hb := Xr _ _ _ _ hc
      rw [List.length_map] at hb
      obtain ⟨t, h1, h2⟩ := grow_ex hf xs n m e1 hc
      obtain ⟨ts, h3, h4, h5, h6, h7⟩ := ih e1 e hb.2 h
      have he : e1 = m + t.size := by omega
      refine ⟨t :: ts, by rw [sizeL_cons]; omega, ?_, by rw [idxs, hk, <- he, h5], by omega, h7⟩
      obtain ⟨p1, q1⟩ := h2
      obtain ⟨p2, q2⟩ := h4
      refine ⟨p2, ?_⟩
      have := congrArg (List.drop t.size) q1
      rw [List.drop_drop, <- he, <- lay_len (f := f) t m, List.drop_left, q2] at this
      rw [layL_cons, List.append_assoc, <- he, this, q1]
    ·cases h
  obtain ⟨ts, h3, h4, h5, h6, h7⟩ := key _ (m + 1) e (by omega) h
  refine ⟨.mk (inf xs[m]) ts, by rw [size_mk]; omega, ?_⟩
  obtain ⟨p, q⟩ := h4
  refine ⟨p, ?_⟩
  rw [lay_mk, List.drop_eq_getElem_cons hm, q, h5, hf]; rfl
theorem grow_all (hf : ∀ x, f (inf x) (ks x) = x) {xs : List N} (h : xL (xs.map ks) = true) : ∃ t : Arb α, xs = lay f 0 t := by
 unfold xL at h
 have he : pEnd (xs.map ks) (xs.map ks).length 0 = some (xs.map ks).length := by simpa using h
 obtain ⟨t, h1, h2⟩ := grow_ex hf xs _ _ _ he
 exact ⟨t, h2.whole (by rw [List.length_map] at h1; omega)⟩
inductive All (P : α -> List (Arb α) -> Prop) : Arb α -> Prop where
 | mk {x : α} {l : List (Arb α)} : P x l -> (∀ t ∈ l, All P t) -> All P (.mk x l)
theorem All.root {P : α -> List (Arb α) -> Prop} {x : α} {l : List (Arb α)} (h : All P (.mk x l)) : P x l := by cases h; assumption
theorem All.kid {P : α -> List (Arb α) -> Prop} {x : α} {l : List (Arb α)} (h : All P (.mk x l)) : ∀ t ∈ l, All P t := by cases h; assumption
theorem all_of {P : α -> List (Arb α) -> Prop} {xs : List N} : ∀ (t : Arb α) (m : Nat), At f xs m t -> (∀ (j : Nat) (x : α) (l : List (Arb α)), At f xs j (.mk x l) -> P x l) -> All P t := fun t => by
 induction t using ind with
 | h a l ih =>
  intro m h hp
  refine .mk (hp m a l h) fun t ht => ?_
  obtain ⟨i, hi, rfl⟩ := List.getElem_of_mem ht
  exact ih _ ht _ (h.kids.at i hi) hp
end Arb
end
section
attribute [local go_sem] List.length_set List.set_set
open Go.RowKit Go.ChangeShapes Go.WideShapes
structure DPNode where
 kind : Int
 n : Int
 s : ByteArray
 kids : List Int
def DPNode.enc (x : DPNode) : List D := [.s (.int .i64 x.kind), .s (.int .i64 x.n), .s (.string x.s), .sl 1 (x.kids.map iE)]
theorem DPNode.enc_eq (x : DPNode) : x.enc = [.s (.int .i64 x.kind), .s (.int .i64 x.n), .s (.string x.s), .sl 1 (x.kids.map iE)] := rfl
def DPNode.own (x : DPNode) : List D := [.s (.int .i64 x.kind), .s (.int .i64 x.n), .s (.string x.s), .osl 3 1 (x.kids.map iE)]
theorem DPNode.own_eq (x : DPNode) : x.own = [.s (.int .i64 x.kind), .s (.int .i64 x.n), .s (.string x.s), .osl 3 1 (x.kids.map iE)] := rfl
theorem DPNode.frz_eq (x : DPNode) : frzL x.own = x.enc := by
 simp only [DPNode.own_eq, DPNode.enc_eq, frzL, frz, xR iE_frz]
def DPNode.ok (x : DPNode) : Prop := I64 x.kind /\ I64 x.n /\ x.s.size <= maxLen /\ (∀ y ∈ x.kids, I64 y)
def DPNode.sm (x : DPNode) : Prop := x.s.size <= 1048576 /\ smS (fun _ : Int => True) x.kids
def DPNode.cnt (x : DPNode) : Nat := 1 + 1 + 1 + cnts (fun _ : Int => 1) x.kids
def DPNode.mark (k : Int) (x : DPNode) : DPNode := ⟨k, (k + 1), mkB ((k + 1) + 1), marks (fun _ : Int => 1) (fun k _ => k) (((k + 1) + 1) + 1) x.kids⟩
theorem DPNode.cnt_eq (x : DPNode) : x.cnt = 1 + 1 + 1 + cnts (fun _ : Int => 1) x.kids := rfl
theorem DPNode.pure (x : DPNode) : ∀ d ∈ x.own, Pure d := by
 simp only [DPNode.own_eq, List.forall_mem_cons, List.not_mem_nil, false_imp_iff, implies_true, and_true]
 exact ⟨.s _, .s _, .s _, xD WU _ _ _⟩
theorem DPNode.pureS (e k : Nat) (xs : List DPNode) : Pure (.osl e k (xs.map DPNode.own)) = True := eq_true (xD DPNode.pure e k xs)
attribute [go_sem] DPNode.pureS
theorem Uy (x : DPNode) (hs : x.sm) : FCon Tryz.prog 136 [.ag x.enc] (fun r _ => r = .ag x.own) := by
 refine FI PM Tryz.func136 Tryz.ntmps136 [] rfl rfl ?_
 (have hWf := w2 @DPNode.enc_eq @DPNode.own_eq; repeat' (first | refine zS ?_ | refine zI ?_ ?_ | refine zK (VT x.kids (hs.2)) ?_ | exact zF0 | refine zD fun hb => ?_ | exact zC | refine zT ?_ | fail))
theorem xam (xs : List DPNode) (hs : smS DPNode.sm xs) : FCon Tryz.prog 85 [.sl 4 (xs.map DPNode.enc)] (fun r _ => r = .osl 59 4 (xs.map DPNode.own)) := by
 have hl := hs.1
 refine FI PM Tryz.func85 Tryz.ntmps85 [] rfl rfl ?_
 (have hWf := f0; repeat' (first | refine zS ?_ | refine zI ?_ ?_ | exact zF0 | refine zD fun hb => ?_ | exact zC | refine zT ?_ | fail))
 refine xd (fun n σ => ∃ k : Nat, k <= xs.length /\ n = xs.length - k /\ σ.t 0 = .sl 4 (xs.map DPNode.enc) /\ σ.t 3 = .bs 7 4 xs.length /\ σ.t 4 = .s (.int .i64 k) /\ σ.b 7 = some (.arr 59 4 (yP DPNode.own [.s (.int .i64 0), .s (.int .i64 0), .s (.string ⟨#[]⟩), .nil] xs k))) xs.length ⟨0, by omega, by omega, ?_⟩ ?_
 ·simp only [go_sem, simprocAttr, zm, Int.natCast_zero]
 ·rintro n σ ⟨k, hk, rfl, h0, h3, h4, h7⟩ K' hK
  by_cases hlt : k < xs.length
  ·have hx := xb DPNode.enc xs k hlt
   have he := DPNode.enc_eq xs[k]
   have hpl := z7 (f := DPNode.own) (z := [.s (.int .i64 0), .s (.int .i64 0), .s (.string ⟨#[]⟩), .nil]) (Nat.le_of_lt hlt)
   have hg := z6 (f := DPNode.own) (z := [.s (.int .i64 0), .s (.int .i64 0), .s (.string ⟨#[]⟩), .nil]) hlt
   have hst := z8 (f := DPNode.own) (z := [.s (.int .i64 0), .s (.int .i64 0), .s (.string ⟨#[]⟩), .nil]) hlt
   rw [DPNode.own_eq] at hst
   (have hWf := w10 @h0 @h3 @h4 @h7 @hx @he @DPNode.own_eq @hpl @hg @hst; repeat' (first | refine zS ?_ | refine zI ?_ ?_ | ((with_reducible apply xc); refine zG (Uy xs[k] (hs.2 _ (List.getElem_mem hlt))) ?_) | ((with_reducible apply xf); refine xe (Uy xs[k] (hs.2 _ (List.getElem_mem hlt))) ?_) | exact zF0 | refine zD fun hb => ?_ | exact zC | refine zT ?_ | fail))
   refine hK (xs.length - (k + 1)) _ (by omega) ⟨k + 1, by omega, rfl, ?_⟩
   simp only [go_sem, simprocAttr, h0, h3, h4, h7, Int.natCast_succ]
  ·obtain rfl : k = xs.length := by omega
   rw [z5] at h7
   (have hWf := w4 @h0 @h3 @h4 @h7; repeat' (first | refine zS ?_ | refine zI ?_ ?_ | exact zF0 | refine zD fun hb => ?_ | exact zC | refine zT ?_ | fail))
theorem c_eqPNode (x : DPNode) : FCon Tryz.prog 156 [.ag x.enc, .ag x.enc] (fun r _ => r = .s (.bool true)) := by
 refine FI PM Tryz.func156 Tryz.ntmps156 [] rfl rfl ?_
 (have hWf := w1 @DPNode.enc_eq; repeat' (first | refine zS ?_ | refine zI ?_ ?_ | refine zK (VJ x.kids) ?_ | exact zF0 | refine zD fun hb => ?_ | exact zC | refine zT ?_ | fail))
theorem Q9 (xs : List DPNode) : FCon Tryz.prog 109 [.sl 4 (xs.map DPNode.enc), .sl 4 (xs.map DPNode.enc)] (fun r _ => r = .s (.bool true)) := by
 refine FI PM Tryz.func109 Tryz.ntmps109 [(6, 8, [], [], (lin [] [0, 1, 2, 3, 4, 5, 6, 7]))] rfl rfl ?_
 refine x5 0 rfl trivial fun hlen => ?_
 simp only [List.length_map] at hlen
 (have hWf := f0; repeat' (first | refine zS ?_ | refine zI ?_ ?_ | exact zF0 | refine zD fun hb => ?_ | exact zC | refine zT ?_ | fail))
 refine xd (fun n σ => ∃ k : Nat, k <= xs.length /\ n = xs.length - k /\ σ.t 0 = .sl 4 (xs.map DPNode.enc) /\ σ.t 1 = .sl 4 (xs.map DPNode.enc) /\ σ.t 5 = .s (.int .i64 k)) xs.length ⟨0, by omega, by omega, ?_⟩ ?_
 ·simp only [go_sem, simprocAttr, Int.natCast_zero]
 ·rintro n σ ⟨k, hk, rfl, h0, h1, h5⟩ K' hK
  by_cases hlt : k < xs.length
  ·have hx := xb DPNode.enc xs k hlt
   have he := DPNode.enc_eq xs[k]
   (have hWf := w5 @h0 @h1 @h5 @hx @he; repeat' (first | refine zS ?_ | refine zI ?_ ?_ | refine zK (c_eqPNode xs[k]) ?_ | exact zF0 | refine zD fun hb => ?_ | exact zC | refine zT ?_ | fail))
   all_goals
    refine hK (xs.length - (k + 1)) _ (by omega) ⟨k + 1, by omega, rfl, ?_⟩
    simp only [go_sem, simprocAttr, h0, h1, h5, Int.natCast_succ]
  ·(have hWf := w3 @h0 @h1 @h5; repeat' (first | refine zS ?_ | refine zI ?_ ?_ | exact zF0 | refine zD fun hb => ?_ | exact zC | refine zT ?_ | fail))
theorem Yq (xs : List DPNode) (hs : smS DPNode.sm xs) (k : Int) (h0 : 0 <= k) (hk : k + cnts DPNode.cnt xs <= 4611686018427387904) : FCon Tryz.prog 57 [.osl 59 4 (xs.map DPNode.own), .s (.int .i64 k)] (fun r o => r = .s (.int .i64 (k + cnts DPNode.cnt xs)) /\ o = [.osl 59 4 ((marks DPNode.cnt DPNode.mark k xs).map DPNode.own), .un]) := by
 refine FI PM Tryz.func57 Tryz.ntmps57 [] rfl rfl ?_
 (have hWf := f0; repeat' (first | refine zS ?_ | refine zI ?_ ?_ | exact zF0 | refine zD fun hb => ?_ | exact zC | refine zT ?_ | fail))
 refine vu (fun n σ => ∃ i : Nat, i <= xs.length /\ n = xs.length - i /\ σ.t 0 = .bs 900000 4 xs.length /\ σ.t 1 = .s (.int .i64 (k + cnts DPNode.cnt (xs.take i))) /\ σ.t 5 = .s (.int .i64 i) /\ σ.b 900000 = some (.arr 59 4 ((stM DPNode.cnt DPNode.mark k xs i).map DPNode.own))) xs.length ⟨0, by omega, by omega, ?_⟩ ?_
 ·simp only [go_sem, simprocAttr, Int.natCast_zero, wv, List.take_zero, cnts, Int.add_zero]
 ·rintro n σ ⟨i, hi, rfl, h0, h1, h5, h9⟩ K' hK
  by_cases hlt : i < xs.length
  ·have hc := yV (c := DPNode.cnt) hlt
   have hc' := wC (c := DPNode.cnt) xs (i + 1)
   have hx := ur (c := DPNode.cnt) (m := DPNode.mark) k hlt DPNode.own
   have hpl := ut (c := DPNode.cnt) (m := DPNode.mark) k (Nat.le_of_lt hlt)
   have hst := wK (c := DPNode.cnt) (m := DPNode.mark) k hlt DPNode.own
   have hgs : ∀ r, (((stM DPNode.cnt DPNode.mark k xs i).map DPNode.own).set i r).getD i [] = r := fun r => by rw [List.getD_eq_getElem?_getD, List.getElem?_set_self (by rw [List.length_map, hpl]; exact hlt)]; rfl
   simp only [DPNode.own_eq, DPNode.mark] at hx hst
   simp only [DPNode.cnt] at hc
   have hrow : ((stM DPNode.cnt DPNode.mark k xs i).map DPNode.own)[i]? = some (DPNode.own xs[i]) := by
    have h1 : i < ((stM DPNode.cnt DPNode.mark k xs i).map DPNode.own).length := by simpa [hpl] using hlt
    rw [List.getElem?_eq_getElem h1, <- xZ (List.getElem?_eq_getElem h1), hx]
    rfl
   have hsx := hs.2 _ (List.getElem_mem hlt)
   have hl := hs.1
   (refine xj ?_; simp only [go_sem, simprocAttr, h0, h1, h5]; (have hWf := w3 @h0 @h1 @h5; repeat' (first | refine zY ?_ | refine zI ?_ ?_ | exact zF1 | refine zD fun hb => ?_ | exact zC | refine zT ?_ | fail)))
   (refine xj ?_; simp only [go_sem, simprocAttr, h0, h1, h5]; (have hWf := w3 @h0 @h1 @h5; repeat' (first | refine zY ?_ | refine zI ?_ ?_ | exact zF1 | refine zD fun hb => ?_ | exact zC | refine zT ?_ | fail)))
   (refine xj ?_; simp only [go_sem, simprocAttr, h0, h1, h5]; (have hWf := w3 @h0 @h1 @h5; repeat' (first | refine zY ?_ | refine zI ?_ ?_ | exact zF1 | refine zD fun hb => ?_ | exact zC | refine zT ?_ | fail)))
   (refine xj ?_; simp only [go_sem, simprocAttr, h0, h1, h5, h9, hx, hpl, hgs, List.set_set, List.length_set, DPNode.own_eq]; (have hWf := w8 @h0 @h1 @h5 @h9 @hx @hpl @hgs @DPNode.own_eq; repeat' (first | refine zY ?_ | refine zI ?_ ?_ | exact zF1 | refine zD fun hb => ?_ | exact zC | refine zT ?_ | fail)))
   (refine xj ?_; simp only [go_sem, simprocAttr, h0, h1, h5, h9, hx, hpl, hgs, List.set_set, List.length_set, DPNode.own_eq]; (have hWf := w8 @h0 @h1 @h5 @h9 @hx @hpl @hgs @DPNode.own_eq; repeat' (first | refine zY ?_ | refine zI ?_ ?_ | exact zF1 | refine zD fun hb => ?_ | exact zC | refine zT ?_ | fail)))
   (refine xj ?_; simp only [go_sem, simprocAttr, h0, h1, h5, h9, hx, hpl, hgs, List.set_set, List.length_set, DPNode.own_eq]; (have hWf := w8 @h0 @h1 @h5 @h9 @hx @hpl @hgs @DPNode.own_eq; repeat' (first | refine zY ?_ | refine zI ?_ ?_ | exact zF1 | refine zD fun hb => ?_ | exact zC | refine zT ?_ | fail)))
   (refine xj ?_; simp only [go_sem, simprocAttr, h0, h1, h5, h9, hx, hpl, hgs, List.set_set, List.length_set, DPNode.own_eq]; (have hWf := w8 @h0 @h1 @h5 @h9 @hx @hpl @hgs @DPNode.own_eq; repeat' (first | refine zY ?_ | refine zI ?_ ?_ | exact zF1 | refine zD fun hb => ?_ | exact zC | refine zT ?_ | fail)))
   (refine xj ?_; simp only [go_sem, simprocAttr, h0, h1, h5, h9, hx, hpl, hgs, List.set_set, List.length_set, DPNode.own_eq]; (have hWf := w8 @h0 @h1 @h5 @h9 @hx @hpl @hgs @DPNode.own_eq; repeat' (first | refine zY ?_ | refine zI ?_ ?_ | ((with_reducible apply xc); refine zG (x6 (((k + (cnts DPNode.cnt (xs.take i) : Nat)) + 1) + 1) (by omega)) ?_) | ((with_reducible apply xf); refine xe (x6 (((k + (cnts DPNode.cnt (xs.take i) : Nat)) + 1) + 1) (by omega)) ?_) | exact zF1 | refine zD fun hb => ?_ | exact zC | refine zT ?_ | fail)))
   (refine xj ?_; simp only [go_sem, simprocAttr, h0, h1, h5, h9, hx, hpl, hgs, List.set_set, List.length_set, DPNode.own_eq]; (have hWf := w8 @h0 @h1 @h5 @h9 @hx @hpl @hgs @DPNode.own_eq; repeat' (first | refine zY ?_ | refine zI ?_ ?_ | exact zF1 | refine zD fun hb => ?_ | exact zC | refine zT ?_ | fail)))
   refine vk 900000 i 3 1000000003 (e := 59) (k := 4) (rows := ((stM DPNode.cnt DPNode.mark k xs i).map DPNode.own).set i [.s (.int .i64 (k + (cnts DPNode.cnt (xs.take i) : Nat))), .s (.int .i64 ((k + (cnts DPNode.cnt (xs.take i) : Nat)) + 1)), .s (.string (mkB (((k + (cnts DPNode.cnt (xs.take i) : Nat)) + 1) + 1))), .osl 3 1 (xs[i].kids.map iE)]) (row := [.s (.int .i64 (k + (cnts DPNode.cnt (xs.take i) : Nat))), .s (.int .i64 ((k + (cnts DPNode.cnt (xs.take i) : Nat)) + 1)), .s (.string (mkB (((k + (cnts DPNode.cnt (xs.take i) : Nat)) + 1) + 1))), .osl 3 1 (xs[i].kids.map iE)]) (d := .osl 3 1 (xs[i].kids.map iE)) (by simp only [go_sem, simprocAttr, h9]) (List.getElem?_set_self (by rw [List.length_map, hpl]; exact hlt)) rfl rfl (by decide) (by decide) ?_
   (have hWf := w9 @h0 @h1 @h5 @h9 @hx @hpl @hgs @DPNode.own_eq @xh; repeat' (first | refine zS ?_ | refine zI ?_ ?_ | ((with_reducible apply xc); refine xg (uU xs[i].kids (hsx.2).1 _ (by omega) (by omega)) ?_; rintro _ _ ⟨rfl, rfl⟩) | ((with_reducible apply xf); refine xe (uU xs[i].kids (hsx.2).1 _ (by omega) (by omega)) ?_) | exact zF0 | refine zD fun hb => ?_ | exact zC | refine zT ?_ | fail))
   refine hK (xs.length - (i + 1)) _ _ (by omega) (uf 900000 1000000003 (e := 59) (k := 4) (i := i) (j := 3) (rows := ((stM DPNode.cnt DPNode.mark k xs i).map DPNode.own).set i [.s (.int .i64 (k + (cnts DPNode.cnt (xs.take i) : Nat))), .s (.int .i64 ((k + (cnts DPNode.cnt (xs.take i) : Nat)) + 1)), .s (.string (mkB (((k + (cnts DPNode.cnt (xs.take i) : Nat)) + 1) + 1))), .osl 3 1 (xs[i].kids.map iE)]) (r := .bs 1000000003 1 xs[i].kids.length) (d := .osl 3 1 ((marks (fun _ : Int => 1) (fun k _ => k) ((((k + (cnts DPNode.cnt (xs.take i) : Nat)) + 1) + 1) + 1) xs[i].kids).map iE)) (ob := 1 = 1 /\ xs[i].kids.length <= ((marks (fun _ : Int => 1) (fun k _ => k) ((((k + (cnts DPNode.cnt (xs.take i) : Nat)) + 1) + 1) + 1) xs[i].kids).map iE).length) ?_ ?_ ⟨rfl, by rw [List.length_map, xh]; exact Nat.le_refl _⟩ rfl (by decide)) ⟨i + 1, by omega, rfl, ?_⟩
   ·simp only [go_sem, simprocAttr, h9, hgs]
   ·simp only [go_sem, simprocAttr, xh]
   ·simp only [go_sem, simprocAttr, h0, h1, h5, h9, Int.natCast_succ, hx, hst, hgs, List.set_set, List.set_cons_succ, List.set_cons_zero]
    exact xq (by rw [hc]; push_cast; omega)
  ·obtain rfl : i = xs.length := by omega
   rw [uq] at h9
   rw [List.take_length] at h1
   (have hWf := w5 @h0 @h1 @h5 @h9 @xh; repeat' (first | refine zS ?_ | refine zI ?_ ?_ | exact zF0 | refine zD fun hb => ?_ | exact zC | refine zT ?_ | fail))
end
section
attribute [local go_sem] List.length_set List.set_set
open Go.RowKit Go.ChangeShapes Go.WideShapes
structure MPat where
 nodes : List DPNode
def MPat.enc (x : MPat) : List D := [.sl 4 (x.nodes.map DPNode.enc)]
theorem MPat.enc_eq (x : MPat) : x.enc = [.sl 4 (x.nodes.map DPNode.enc)] := rfl
def MPat.own (x : MPat) : List D := [.osl 59 4 (x.nodes.map DPNode.own)]
theorem MPat.own_eq (x : MPat) : x.own = [.osl 59 4 (x.nodes.map DPNode.own)] := rfl
theorem MPat.frz_eq (x : MPat) : frzL x.own = x.enc := by
 simp only [MPat.own_eq, MPat.enc_eq, frzL, frz, xR DPNode.frz_eq]
def MPat.ok (x : MPat) : Prop := (∀ y ∈ x.nodes, y.ok)
def MPat.sm (x : MPat) : Prop := smS DPNode.sm x.nodes
def MPat.cnt (x : MPat) : Nat := cnts DPNode.cnt x.nodes
def MPat.mark (k : Int) (x : MPat) : MPat := ⟨marks DPNode.cnt DPNode.mark k x.nodes⟩
theorem MPat.cnt_eq (x : MPat) : x.cnt = cnts DPNode.cnt x.nodes := rfl
theorem MPat.pure (x : MPat) : ∀ d ∈ x.own, Pure d := by
 simp only [MPat.own_eq, List.forall_mem_cons, List.not_mem_nil, false_imp_iff, implies_true, and_true]
 exact xD DPNode.pure _ _ _
theorem MPat.pureS (e k : Nat) (xs : List MPat) : Pure (.osl e k (xs.map MPat.own)) = True := eq_true (xD MPat.pure e k xs)
attribute [go_sem] MPat.pureS
theorem MPat.frzS (xs : List MPat) : xN (xs.map MPat.own) = xs.map MPat.enc := xR MPat.frz_eq xs
attribute [go_sem] MPat.frzS
theorem c_toPat (x : MPat) (hs : x.sm) : FCon Tryz.prog 42 [.ag x.enc] (fun r _ => r = .ag x.own) := by
 refine FI PM Tryz.func42 Tryz.ntmps42 [] rfl rfl ?_
 (have hWf := w2 @MPat.enc_eq @MPat.own_eq; repeat' (first | refine zS ?_ | refine zI ?_ ?_ | refine zK (xam x.nodes (hs)) ?_ | exact zF0 | refine zD fun hb => ?_ | exact zC | refine zT ?_ | fail))
theorem VV (xs : List MPat) (hs : smS MPat.sm xs) : FCon Tryz.prog 12 [.sl 1 (xs.map MPat.enc)] (fun r _ => r = .osl 62 1 (xs.map MPat.own)) := by
 have hl := hs.1
 refine FI PM Tryz.func12 Tryz.ntmps12 [] rfl rfl ?_
 (have hWf := f0; repeat' (first | refine zS ?_ | refine zI ?_ ?_ | exact zF0 | refine zD fun hb => ?_ | exact zC | refine zT ?_ | fail))
 refine xd (fun n σ => ∃ k : Nat, k <= xs.length /\ n = xs.length - k /\ σ.t 0 = .sl 1 (xs.map MPat.enc) /\ σ.t 3 = .bs 7 1 xs.length /\ σ.t 4 = .s (.int .i64 k) /\ σ.b 7 = some (.arr 62 1 (yP MPat.own [.nil] xs k))) xs.length ⟨0, by omega, by omega, ?_⟩ ?_
 ·simp only [go_sem, simprocAttr, zm, Int.natCast_zero]
 ·rintro n σ ⟨k, hk, rfl, h0, h3, h4, h7⟩ K' hK
  by_cases hlt : k < xs.length
  ·have hx := xb MPat.enc xs k hlt
   have he := MPat.enc_eq xs[k]
   have hpl := z7 (f := MPat.own) (z := [.nil]) (Nat.le_of_lt hlt)
   have hg := z6 (f := MPat.own) (z := [.nil]) hlt
   have hst := z8 (f := MPat.own) (z := [.nil]) hlt
   rw [MPat.own_eq] at hst
   (have hWf := w10 @h0 @h3 @h4 @h7 @hx @he @MPat.own_eq @hpl @hg @hst; repeat' (first | refine zS ?_ | refine zI ?_ ?_ | ((with_reducible apply xc); refine zG (c_toPat xs[k] (hs.2 _ (List.getElem_mem hlt))) ?_) | ((with_reducible apply xf); refine xe (c_toPat xs[k] (hs.2 _ (List.getElem_mem hlt))) ?_) | exact zF0 | refine zD fun hb => ?_ | exact zC | refine zT ?_ | fail))
   refine hK (xs.length - (k + 1)) _ (by omega) ⟨k + 1, by omega, rfl, ?_⟩
   simp only [go_sem, simprocAttr, h0, h3, h4, h7, Int.natCast_succ]
  ·obtain rfl : k = xs.length := by omega
   rw [z5] at h7
   (have hWf := w4 @h0 @h3 @h4 @h7; repeat' (first | refine zS ?_ | refine zI ?_ ?_ | exact zF0 | refine zD fun hb => ?_ | exact zC | refine zT ?_ | fail))
theorem c_eqPat (x : MPat) : FCon Tryz.prog 54 [.ag x.enc, .ag x.enc] (fun r _ => r = .s (.bool true)) := by
 refine FI PM Tryz.func54 Tryz.ntmps54 [] rfl rfl ?_
 (have hWf := w1 @MPat.enc_eq; repeat' (first | refine zS ?_ | refine zI ?_ ?_ | refine zK (Q9 x.nodes) ?_ | exact zF0 | refine zD fun hb => ?_ | exact zC | refine zT ?_ | fail))
theorem VK (xs : List MPat) : FCon Tryz.prog 16 [.sl 1 (xs.map MPat.enc), .sl 1 (xs.map MPat.enc)] (fun r _ => r = .s (.bool true)) := by
 refine FI PM Tryz.func16 Tryz.ntmps16 [(6, 8, [], [], (lin [] [0, 1, 2, 3, 4, 5, 6, 7]))] rfl rfl ?_
 refine x5 0 rfl trivial fun hlen => ?_
 simp only [List.length_map] at hlen
 (have hWf := f0; repeat' (first | refine zS ?_ | refine zI ?_ ?_ | exact zF0 | refine zD fun hb => ?_ | exact zC | refine zT ?_ | fail))
 refine xd (fun n σ => ∃ k : Nat, k <= xs.length /\ n = xs.length - k /\ σ.t 0 = .sl 1 (xs.map MPat.enc) /\ σ.t 1 = .sl 1 (xs.map MPat.enc) /\ σ.t 5 = .s (.int .i64 k)) xs.length ⟨0, by omega, by omega, ?_⟩ ?_
 ·simp only [go_sem, simprocAttr, Int.natCast_zero]
 ·rintro n σ ⟨k, hk, rfl, h0, h1, h5⟩ K' hK
  by_cases hlt : k < xs.length
  ·have hx := xb MPat.enc xs k hlt
   have he := MPat.enc_eq xs[k]
   (have hWf := w5 @h0 @h1 @h5 @hx @he; repeat' (first | refine zS ?_ | refine zI ?_ ?_ | refine zK (c_eqPat xs[k]) ?_ | exact zF0 | refine zD fun hb => ?_ | exact zC | refine zT ?_ | fail))
   all_goals
    refine hK (xs.length - (k + 1)) _ (by omega) ⟨k + 1, by omega, rfl, ?_⟩
    simp only [go_sem, simprocAttr, h0, h1, h5, Int.natCast_succ]
  ·(have hWf := w3 @h0 @h1 @h5; repeat' (first | refine zS ?_ | refine zI ?_ ?_ | exact zF0 | refine zD fun hb => ?_ | exact zC | refine zT ?_ | fail))
theorem XE (xs : List MPat) (hs : smS MPat.sm xs) (k : Int) (h0 : 0 <= k) (hk : k + cnts MPat.cnt xs <= 4611686018427387904) : FCon Tryz.prog 18 [.osl 62 1 (xs.map MPat.own), .s (.int .i64 k)] (fun r o => r = .s (.int .i64 (k + cnts MPat.cnt xs)) /\ o = [.osl 62 1 ((marks MPat.cnt MPat.mark k xs).map MPat.own), .un]) := by
 refine FI PM Tryz.func18 Tryz.ntmps18 [] rfl rfl ?_
 (have hWf := f0; repeat' (first | refine zS ?_ | refine zI ?_ ?_ | exact zF0 | refine zD fun hb => ?_ | exact zC | refine zT ?_ | fail))
 refine vu (fun n σ => ∃ i : Nat, i <= xs.length /\ n = xs.length - i /\ σ.t 0 = .bs 900000 1 xs.length /\ σ.t 1 = .s (.int .i64 (k + cnts MPat.cnt (xs.take i))) /\ σ.t 5 = .s (.int .i64 i) /\ σ.b 900000 = some (.arr 62 1 ((stM MPat.cnt MPat.mark k xs i).map MPat.own))) xs.length ⟨0, by omega, by omega, ?_⟩ ?_
 ·simp only [go_sem, simprocAttr, Int.natCast_zero, wv, List.take_zero, cnts, Int.add_zero]
 ·rintro n σ ⟨i, hi, rfl, h0, h1, h5, h9⟩ K' hK
  by_cases hlt : i < xs.length
  ·have hc := yV (c := MPat.cnt) hlt
   have hc' := wC (c := MPat.cnt) xs (i + 1)
   have hx := ur (c := MPat.cnt) (m := MPat.mark) k hlt MPat.own
   have hpl := ut (c := MPat.cnt) (m := MPat.mark) k (Nat.le_of_lt hlt)
   have hst := wK (c := MPat.cnt) (m := MPat.mark) k hlt MPat.own
   have hgs : ∀ r, (((stM MPat.cnt MPat.mark k xs i).map MPat.own).set i r).getD i [] = r := fun r => by rw [List.getD_eq_getElem?_getD, List.getElem?_set_self (by rw [List.length_map, hpl]; exact hlt)]; rfl
   simp only [MPat.own_eq, MPat.mark] at hx hst
   simp only [MPat.cnt] at hc
   have hrow : ((stM MPat.cnt MPat.mark k xs i).map MPat.own)[i]? = some (MPat.own xs[i]) := by
    have h1 : i < ((stM MPat.cnt MPat.mark k xs i).map MPat.own).length := by simpa [hpl] using hlt
    rw [List.getElem?_eq_getElem h1, <- xZ (List.getElem?_eq_getElem h1), hx]
    rfl
   have hsx := hs.2 _ (List.getElem_mem hlt)
   have hl := hs.1
   (refine xj ?_; simp only [go_sem, simprocAttr, h0, h1, h5]; (have hWf := w3 @h0 @h1 @h5; repeat' (first | refine zY ?_ | refine zI ?_ ?_ | exact zF1 | refine zD fun hb => ?_ | exact zC | refine zT ?_ | fail)))
   (refine xj ?_; simp only [go_sem, simprocAttr, h0, h1, h5]; (have hWf := w3 @h0 @h1 @h5; repeat' (first | refine zY ?_ | refine zI ?_ ?_ | exact zF1 | refine zD fun hb => ?_ | exact zC | refine zT ?_ | fail)))
   (refine xj ?_; simp only [go_sem, simprocAttr, h0, h1, h5]; (have hWf := w3 @h0 @h1 @h5; repeat' (first | refine zY ?_ | refine zI ?_ ?_ | exact zF1 | refine zD fun hb => ?_ | exact zC | refine zT ?_ | fail)))
   refine vk 900000 i 0 1000000000 (e := 62) (k := 1) (rows := ((stM MPat.cnt MPat.mark k xs i).map MPat.own)) (row := [.osl 59 4 (xs[i].nodes.map DPNode.own)]) (d := .osl 59 4 (xs[i].nodes.map DPNode.own)) (by simp only [go_sem, simprocAttr, h9]) (hrow) rfl rfl (by decide) (by decide) ?_
   (have hWf := w9 @h0 @h1 @h5 @h9 @hx @hpl @hgs @MPat.own_eq @xh; repeat' (first | refine zS ?_ | refine zI ?_ ?_ | ((with_reducible apply xc); refine xg (Yq xs[i].nodes (hsx) _ (by omega) (by omega)) ?_; rintro _ _ ⟨rfl, rfl⟩) | ((with_reducible apply xf); refine xe (Yq xs[i].nodes (hsx) _ (by omega) (by omega)) ?_) | exact zF0 | refine zD fun hb => ?_ | exact zC | refine zT ?_ | fail))
   refine hK (xs.length - (i + 1)) _ _ (by omega) (uf 900000 1000000000 (e := 62) (k := 1) (i := i) (j := 0) (rows := ((stM MPat.cnt MPat.mark k xs i).map MPat.own)) (r := .bs 1000000000 4 xs[i].nodes.length) (d := .osl 59 4 ((marks DPNode.cnt DPNode.mark (k + (cnts MPat.cnt (xs.take i) : Nat)) xs[i].nodes).map DPNode.own)) (ob := 4 = 4 /\ xs[i].nodes.length <= ((marks DPNode.cnt DPNode.mark (k + (cnts MPat.cnt (xs.take i) : Nat)) xs[i].nodes).map DPNode.own).length) ?_ ?_ ⟨rfl, by rw [List.length_map, xh]; exact Nat.le_refl _⟩ rfl (by decide)) ⟨i + 1, by omega, rfl, ?_⟩
   ·simp only [go_sem, simprocAttr, h9, hgs]
   ·simp only [go_sem, simprocAttr, xh]
   ·simp only [go_sem, simprocAttr, h0, h1, h5, h9, Int.natCast_succ, hx, hst, hgs, List.set_set, List.set_cons_succ, List.set_cons_zero]
    exact xq (by rw [hc]; push_cast; omega)
  ·obtain rfl : i = xs.length := by omega
   rw [uq] at h9
   rw [List.take_length] at h1
   (have hWf := w5 @h0 @h1 @h5 @h9 @xh; repeat' (first | refine zS ?_ | refine zI ?_ ?_ | exact zF0 | refine zD fun hb => ?_ | exact zC | refine zT ?_ | fail))
end
section
open Go.RowKit
def ze (s : ByteArray) (k : Nat) (pair : Bool) : Bool :=
 if s.toList == [116, 114, 117, 101] || s.toList == [102, 97, 108, 115, 101] || s.toList == [91, 93] then (k : Int) == 0
 else if s.toList == [58, 58] then ((k : Int) == 1) && pair
 else conM s.data.toList && decide ((k : Int) <= 1)
abbrev yz (xs : List DPNode) : List (List Int) := xs.map fun x => x.kids
theorem vW (xs : List DPNode) : (yz xs).length = xs.length := List.length_map ..
theorem kidsP_at (xs : List DPNode) (k : Nat) (h : k < xs.length) : (yz xs)[k]'(by simpa using h) = xs[k].kids := by simp
def wU (xs : List DPNode) (l : List Int) : Bool := match l with
 | [k] => decide (0 <= k) && decide (k < xs.length) && (match xs[k.toNat]? with | some x => x.kind == 5 | none => false)
 | _ => false
theorem Qm (xs : List DPNode) (l : List Int) (h : ¬ l.length = 1) : wU xs l = false := by
 unfold wU
 split
 ·simp at h
 ·rfl
theorem Z0 (xs : List DPNode) (l : List Int) (h : l.length = 1) (k : Nat) (hk : k < xs.length) (hl : l[0]'(by omega) = (k : Int)) : wU xs l = (xs[k].kind == 5) := by
 match l, h with
 | [z], _ =>
  have hz : z = (k : Int) := hl
  subst hz
  have e : wU xs [(k : Int)] = (decide (0 <= (k : Int)) && decide ((k : Int) < xs.length) && (match xs[(k : Int).toNat]? with | some x => x.kind == 5 | none => false)) := rfl
  rw [e, decide_eq_true (by omega), decide_eq_true (by omega), Int.toNat_natCast, List.getElem?_eq_getElem hk]
  rfl
theorem U2 (xs : List DPNode) (l : List Int) (h : l.length = 1) (hl : l[0]'(by omega) < 0 \/ (xs.length : Int) <= l[0]'(by omega)) : wU xs l = false := by
 match l, h with
 | [z], _ =>
  have hz : z < 0 \/ (xs.length : Int) <= z := hl
  have e : wU xs [z] = (decide (0 <= z) && decide (z < xs.length) && (match xs[z.toNat]? with | some x => x.kind == 5 | none => false)) := rfl
  rw [e]
  rcases hz with hz | hz
  ·rw [decide_eq_false (by omega)]; rfl
  ·rw [decide_eq_false (p := z < (xs.length : Int)) (by omega), Bool.and_false]; rfl
def yn (p : Bool) (x : DPNode) : Bool :=
 if x.kind = 3 then ((x.kids.length : Int) == 0) && x.s.toList.isEmpty && (decide (-4611686018427387903 <= x.n) && decide (x.n <= 4611686018427387903))
 else if x.kind = 2 then ((x.kids.length : Int) == 0) && (x.n == 0) && xU x.s
 else if x.kind = 6 \/ x.kind = 1 then ((x.kids.length : Int) == 0) && (x.n == 0) && x.s.toList.isEmpty
 else if x.kind = 5 then ((x.kids.length : Int) == 2) && (x.n == 0) && x.s.toList.isEmpty
 else if x.kind = 4 then (x.n == 0) && ze x.s x.kids.length p
 else false
def y3 (xs : List DPNode) (x : DPNode) : Bool := yn (wU xs x.kids) x
def dupB (y x : DPNode) : Bool := (x.kind == 2) && ((y.kind == 2) && decide (y.s = x.s))
def yj (xs : List DPNode) (i : Nat) (h : i < xs.length) : Bool := y3 xs xs[i] && (xs.take i).all fun y => !dupB y xs[i]
def patM (xs : List DPNode) : Bool := decide (1 <= xs.length) && decide (xs.length <= 600) && (List.finRange xs.length).all (fun i => yj xs i.1 i.2) && xL (yz xs)
theorem WT {n : Nat} {p : Fin n -> Bool} : (List.finRange n).all p = true ↔ ∀ i, p i = true := by simp [List.all_eq_true]
theorem XS {xs : List DPNode} {k : Nat} (h : k < xs.length) (hb : yj xs k h = false) : patM xs = false := by
 have : (List.finRange xs.length).all (fun i => yj xs i.1 i.2) = false := by
  rw [List.all_eq_false]
  exact ⟨⟨k, h⟩, List.mem_finRange _, by simp [hb]⟩
 unfold patM
 rw [this, Bool.and_false, Bool.false_and]
theorem Zu {xs : List DPNode} {k : Nat} (h : k < xs.length) (hb : y3 xs xs[k] = false) : yj xs k h = false := by unfold yj; rw [hb]; rfl
theorem Zv {xs : List DPNode} {k j : Nat} (h : k < xs.length) (hj : j < k) (hb : dupB (xs[j]'(by omega)) xs[k] = true) : yj xs k h = false := by
 unfold yj
 have : ((xs.take k).all fun y => !dupB y xs[k]) = false := by
  rw [List.all_eq_false]
  refine ⟨xs[j]'(by omega), ?_, by rw [hb]; simp⟩
  rw [List.mem_take_iff_getElem]
  exact ⟨j, by omega, rfl⟩
 rw [this, Bool.and_false]
theorem UN {xs : List DPNode} {k : Nat} (h : k < xs.length) (hb : y3 xs xs[k] = true) (hd : ∀ j (hj : j < k), dupB (xs[j]'(by omega)) xs[k] = false) : yj xs k h = true := by
 unfold yj
 rw [hb, Bool.true_and, List.all_eq_true]
 intro y hy
 rw [List.mem_take_iff_getElem] at hy
 obtain ⟨j, hj, rfl⟩ := hy
 rw [hd j (by omega)]; rfl
theorem Yy {xs : List DPNode} {k : Nat} (h : ∀ j (hj : j < xs.length), j < k -> yj xs j hj = true) (hlt : k < xs.length) (hk : yj xs k hlt = true) : ∀ j (hj : j < xs.length), j < k + 1 -> yj xs j hj = true := fun j hj hjk => by
 rcases Nat.lt_or_ge j k with q | q
 ·exact h j hj q
 ·obtain rfl : j = k := by omega
  exact hk
theorem U1 (ks : List (List Int)) (n : Nat) : ∀ (l : List Int) (m e : Nat), yH (pEnd ks n) l m = some e -> ∀ z ∈ l, ∃ q : Nat, z = (q : Int) /\ q < ks.length
 | [], m, e, h, z, hz => by cases hz
 | k :: l, m, e, h, z, hz => by
  rw [wT] at h
  cases hc : x7 ks n k m with
  | none => rw [hc] at h; cases h
  | some e1 =>
   rw [hc] at h
   have hb := Z9 hc
   rcases List.mem_cons.1 hz with rfl | hz
   ·exact ⟨m, hb.1, by omega⟩
   ·exact U1 ks n l e1 e h z hz
theorem XR (ks : List (List Int)) : ∀ (n m e : Nat), pEnd ks n m = some e -> ∀ k (h : k < ks.length), m <= k -> k < e -> ∀ z ∈ ks[k], ∃ q : Nat, z = (q : Int) /\ q < ks.length
 | 0, m, e, h => by cases h
 | n + 1, m, e, h => by
  intro k hk h1 h2 z hz
  have hm : m < ks.length := by
   rcases Nat.lt_or_ge m ks.length with q | q
   ·exact q
   ·rw [vB _ _ _ q] at h; cases h
  rw [Xq _ _ _ hm] at h
  by_cases hkm : k = m
  ·subst hkm
   exact U1 ks n _ _ _ h z hz
  ·have key : ∀ (l : List Int) (m e : Nat), yH (pEnd ks n) l m = some e -> m <= k -> k < e -> ∃ q : Nat, z = (q : Int) /\ q < ks.length := by
    intro l
    induction l with
    | nil =>
     intro m e h a b
     have h' : some m = some e := h
     injection h' with h'; omega
    | cons k0 l ih =>
     intro m e h a b
     rw [wT] at h
     cases hc : x7 ks n k0 m with
     | none => rw [hc] at h; cases h
     | some e1 =>
      rw [hc] at h
      have hb := Z9 hc
      by_cases hke : k < e1
      ·unfold x7 at hc
       rw [if_pos hb.1] at hc
       exact XR ks n m e1 hc k hk a hke z hz
      ·exact ih e1 e h (by omega) b
   exact key _ _ _ h (by omega) h2
theorem order_inP {xs : List DPNode} (h : xL (yz xs) = true) (k : Nat) (hk : k < xs.length) (h1 : xs[k].kids.length = 1) : ∃ q : Nat, xs[k].kids[0]'(by omega) = (q : Int) /\ q < xs.length := by
 unfold xL at h
 have he : pEnd (yz xs) (yz xs).length 0 = some (yz xs).length := by simpa using h
 have := XR (yz xs) _ _ _ he k (by rw [vW]; exact hk) (Nat.zero_le _) (by rw [vW]; exact hk) (xs[k].kids[0]'(by omega)) (by rw [kidsP_at xs k hk]; exact List.getElem_mem _)
 rw [vW] at this
 exact this
def NamesAt (xs : List DPNode) (k : Nat) (ns : List ByteArray) : Prop := ns.length <= k /\ ∀ s, s ∈ ns ↔ ∃ j, ∃ h : j < xs.length, j < k /\ xs[j].kind = 2 /\ xs[j].s = s
theorem NamesAt.zero (xs : List DPNode) : NamesAt xs 0 [] := ⟨Nat.le_refl _, fun s => ⟨fun h => (by cases h), fun ⟨j, _, hj, _⟩ => (by omega)⟩⟩
theorem NamesAt.skip {xs : List DPNode} {k : Nat} {ns : List ByteArray} (h : NamesAt xs k ns) (hk : k < xs.length) (h2 : xs[k].kind ≠ 2) : NamesAt xs (k + 1) ns := by
 refine ⟨by have := h.1; omega, fun s => ?_⟩
 rw [h.2 s]
 constructor
 ·rintro ⟨j, hj, a, b⟩
  exact ⟨j, hj, by omega, b⟩
 ·rintro ⟨j, hj, a, b, c⟩
  refine ⟨j, hj, ?_, b, c⟩
  rcases Nat.lt_or_ge j k with q | q
  ·exact q
  ·obtain rfl : j = k := by omega
   exact absurd b h2
theorem NamesAt.add {xs : List DPNode} {k : Nat} {ns : List ByteArray} (h : NamesAt xs k ns) (hk : k < xs.length) (h2 : xs[k].kind = 2) : NamesAt xs (k + 1) (ns ++ [xs[k].s]) := by
 refine ⟨by have := h.1; simp; omega, fun s => ?_⟩
 rw [List.mem_append, h.2 s, List.mem_singleton]
 constructor
 ·rintro (⟨j, hj, a, b⟩ | rfl)
  ·exact ⟨j, hj, by omega, b⟩
  ·exact ⟨k, hk, by omega, h2, rfl⟩
 ·rintro ⟨j, hj, a, b, c⟩
  rcases Nat.lt_or_ge j k with q | q
  ·exact .inl ⟨j, hj, q, b, c⟩
  ·obtain rfl : j = k := by omega
   exact .inr c.symm
theorem NamesAt.dup {xs : List DPNode} {k : Nat} {ns : List ByteArray} (h : NamesAt xs k ns) (hk : k < xs.length) (h2 : xs[k].kind = 2) (hi : inL xs[k].s ns = true) : yj xs k hk = false := by
 obtain ⟨j, hj, a, b, c⟩ := (h.2 _).1 ((wE _ _).1 hi)
 exact Zv hk a (by unfold dupB; rw [h2, b, decide_eq_true c]; rfl)
theorem NamesAt.none {xs : List DPNode} {k : Nat} {ns : List ByteArray} (h : NamesAt xs k ns) (hk : k < xs.length) (hp : y3 xs xs[k] = true) (hi : xs[k].kind = 2 -> inL xs[k].s ns = false) : yj xs k hk = true := by
 refine UN hk hp fun j hj => ?_
 unfold dupB
 by_cases h2 : xs[k].kind = 2
 ·have hn := hi h2
  by_cases hj2 : (xs[j]'(by omega)).kind = 2
  ·by_cases hs : (xs[j]'(by omega)).s = xs[k].s
   ·have : inL xs[k].s ns = true := (wE _ _).2 ((h.2 _).2 ⟨j, by omega, hj, hj2, hs⟩)
    rw [this] at hn; cases hn
   ·rw [decide_eq_false hs]; simp
  ·simp [hj2]
 ·simp [h2]
theorem RepL.inv {S : Nat -> Prop} {up : Nat -> Option Pos} {W : World} {d : D} {ds : List D} {us : List Value} (h : RepL S up W (d :: ds) us) : ∃ u t, us = u :: t /\ Rep S up W none d u /\ RepL S up W ds t := by
 obtain ⟨h1, h2⟩ := h
 match us, h1 with
 | u :: t, h1 => exact ⟨u, t, rfl, h2 0 d u rfl rfl, by simpa using h1, fun j d' u' q1 q2 => h2 (j + 1) d' u' (by simpa using q1) (by simpa using q2)⟩
theorem two_args {P : Nat -> D -> Value -> Prop} {b c : D} {vs : List Value} (hl : vs.length = [b, c].length) (h : ∀ (j : Nat) (x : D) (u : Value), [b, c][j]? = some x -> vs[j]? = some u -> P j x u) : ∃ v u, vs = [v, u] /\ P 0 b v /\ P 1 c u := by
 match vs, hl with
 | [v, u], _ => exact ⟨v, u, rfl, h 0 b v rfl rfl, h 1 c u rfl rfl⟩
theorem SlOf.mapR {α β : Type} {k : Nat} {R : Hp -> List Value -> α -> Prop} {R' : Hp -> List Value -> β -> Prop} {h : Hp} {v : Value} {xs : List α} (f : α -> β) (hR : ∀ r x, R h r x -> R' h r (f x)) (q : SlOf k R h v xs) : SlOf k R' h v (xs.map f) := by
 obtain ⟨a, c, e, h1, h2, r⟩ := q
 refine ⟨a, c, by simpa using e, by simpa using h1, h2, r.imp (fun z => by simp [z]) ?_⟩
 rintro ⟨b, off, ea, hc⟩
 refine ⟨b, off, ea, fun i hi => ?_⟩
 obtain ⟨r, r1, r2, r3⟩ := hc i (by simpa using hi)
 exact ⟨r, r1, r2, by simpa using hR _ _ r3⟩
theorem intS_of {S : Nat -> Prop} {up : Nat -> Option Pos} {W : World} {v : Value} {l : List Int} (h : Rep S up W none (.sl 1 (l.map iE)) v) (ho : ∀ x ∈ l, I64 x) : IntS (hp W) v l :=
 Rep.slOf (enc := iE) (fun _ _ => rfl) (by decide) (fun r x hx hr => by
  rw [xn] at hr
  obtain ⟨u0, t0, rfl, h0, hr⟩ := hr.inv
  obtain rfl : t0 = [] := List.eq_nil_of_length_eq_zero (by have := hr.1; simpa using this)
  obtain rfl : u0 = .int .i64 x := Rep.s_inv h0
  exact ⟨rfl, ho x hx⟩) h
theorem UR {α : Type} {enc : α -> List D} {kids : α -> List Int} {k c : Nat} (hk : 0 < k) {S : Nat -> Prop} {up : Nat -> Option Pos} {W : World} {v : Value} {xs : List α} (hl : ∀ x ∈ xs, (enc x).length = k) (hc : ∀ x ∈ xs, (enc x)[c]? = some (.sl 1 ((kids x).map iE))) (h : Rep S up W none (.sl k (xs.map enc)) v) (ho : ∀ x ∈ xs, ∀ z ∈ kids x, I64 z) : KidsAt k c (hp W) v (xs.map kids) := by
 refine SlOf.mapR (R := fun h r (x : α) => KidR k c h r (kids x)) kids (fun r x q => q) ?_
 refine Rep.slOf (enc := enc) hl hk (fun r x hx hr => ?_) h
 have h1 := hl x hx
 have h2 := hc x hx
 have hlt : c < r.length := by rw [hr.1]; exact (List.getElem?_eq_some_iff.1 h2).1
 exact ⟨by rw [hr.1, h1], r[c], List.getElem?_eq_getElem hlt, intS_of (hr.2 c _ _ h2 (List.getElem?_eq_getElem hlt)) (ho x hx)⟩
theorem pat_kids (w : World) (h : Hp) (hs : Sub h w) (v : Value) (ks : List (List Int)) (hv : KidsAt 4 3 h v ks) (hl : ks.length <= 1000000000) (Bd Od : Nat) (hB : w.cell? ⟨Bd, Od, none⟩ = some v) (i : Nat) (hi : i < ks.length) :
  Calls Tryz.prog 96 #[.int .i64 i, .pointer (some ⟨Bd, Od, none⟩)] w fun e w' => KidQ h w ks[i] e w' := by
 have HV := Lib.hid hv
 obtain ⟨a, c, rfl, hc1, hc2, -⟩ := hv
 unfold maxLen at hc2
 obtain ⟨b, off, rfl, hcell⟩ := HV.out.cell hi
 obtain ⟨v1, hrel, hcs⟩ := hcell i hi
 have c3 := hcs w hs
 have HR := Lib.hid hrel
 clear hcell hcs hrel
 go_enter Tryz.func96, Tryz.ntmps96
 go_wp2_with fail
 go_ret
 exact ⟨_, rfl, HR.out, (by repeat (first | with_reducible exact Below.refl _ _ | with_reducible assumption | with_reducible refine Below.setCell ?_ ?_ _ | with_reducible refine Below.alloc ?_ ?_ _ | with_reducible refine Below.drew ?_ | (with_reducible apply zA; with_reducible assumption) | exact Nat.le_refl _ | omega | (simp <;> omega)))⟩
theorem ent_of {f : FuncId} {fn : Func} {c : Code} (hf : Tryz.prog.funcs[f]? = some fn) (hname : (fn.name == "runtime.NumGoroutine") = false) (hb : fn.body = some c) (vs : Array Value) (w : World) : (callFunc f vs).run Tryz.prog w = .ok (.enter f vs) w := by
 have hname' : ¬ fn.name = "runtime.NumGoroutine" := by simpa using hname
 have hbn : ¬ fn.body = none := by rw [hb]; simp
 simp [callFunc, hf, hname', hbn]
theorem Ut (K : FuncId) (hEnt : ∀ vs w, (callFunc K vs).run Tryz.prog w = .ok (.enter K vs) w) (ks : List (List Int)) (row : List D) (hl : ks.length <= 1000000000) (hks : ∀ k ∈ ks, k.length <= 1000000000)
  (hK : ∀ (w : World) (S : Nat -> Prop) (up : Nat -> Option Pos) (v : Value), Rep S up w none (.pt row) v -> ∀ w1, Below w.heap.size w w1 -> ∀ m (hm : m < ks.length), Calls Tryz.prog K #[.int .i64 m, v] w1 fun e w' => KidQ (hp w) w1 ks[m] e w') :
  FCon Tryz.prog 95 [.s (.int .i64 ks.length), .fn K [.pt row]] (fun r _ => r = .s (.bool (xL ks))) := by
 refine FCon.ofBelow Tryz.func95 (by kernel_rfl) rfl (Rv := (· = .bool (xL ks))) (fun v hv => by subst hv; exact ⟨rfl, rfl⟩) rfl fun w S up vs h1 h2 => ?_
 obtain ⟨v, u, rfl, hv, hu⟩ := two_args (P := fun _ b u => RB S up w b u) h1 h2
 obtain rfl : v = .int .i64 ks.length := Rep.s_inv (show Rep S up w none (.s (.int .i64 ks.length)) v from hv)
 cases (show Rep S up w none (.fn K [.pt row]) u from hu) with
 | fn us hus =>
  have hp := hus 0 _ rfl
  have e : ((List.range [D.pt row].length).map us).toArray = #[us 0] := by simp
  rw [e]
  exact (Qj w ks hl (fun k h => hks _ (List.getElem_mem h)) K (us 0) hEnt fun w1 hb m hm => hK w S up _ hp w1 hb m hm).mono fun e w' ⟨q1, q2⟩ => ⟨_, q1, rfl, q2⟩
theorem Wi (xs : List DPNode) (ho : ∀ x ∈ xs, x.ok) (hl : xs.length <= 1000000000) (hks : ∀ x ∈ xs, x.kids.length <= 1000000000) :
  FCon Tryz.prog 95 [.s (.int .i64 xs.length), .fn 96 [.pt [.sl 4 (xs.map DPNode.enc)]]] (fun r _ => r = .s (.bool (xL (yz xs)))) := by
 have hlen : (xs.map DPNode.kids).length = xs.length := List.length_map _
 have := Ut 96 (ent_of Tryz.func96 rfl rfl) (xs.map DPNode.kids) [.sl 4 (xs.map DPNode.enc)] (by rw [hlen]; exact hl) (fun k h => by obtain ⟨x, hx, rfl⟩ := List.mem_map.1 h; exact hks x hx) fun w S up v hv w1 hb m hm => by
  cases hv with
  | @pt _ _ b off ws hc hr =>
   have c1 := (hc 0 _ rfl).2
   have hk := UR (enc := DPNode.enc) (kids := DPNode.kids) (k := 4) (c := 3) (by decide) (fun _ _ => rfl) (fun _ _ => rfl) (hr 0 _ rfl) (fun x hx => (ho x hx).2.2.2)
   exact pat_kids w1 (hp w) ((Sub.self w).below hb) _ _ hk (by rw [hlen]; exact hl) b off (zV hb c1) m hm
 rw [hlen] at this
 exact this
theorem litTrue : (⟨#[116, 114, 117, 101]⟩ : ByteArray).toList = [116, 114, 117, 101] := by kernel_rfl
theorem Qe : (⟨#[102, 97, 108, 115, 101]⟩ : ByteArray).toList = [102, 97, 108, 115, 101] := by kernel_rfl
theorem litNil : (⟨#[91, 93]⟩ : ByteArray).toList = [91, 93] := by kernel_rfl
theorem litCons : (⟨#[58, 58]⟩ : ByteArray).toList = [58, 58] := by kernel_rfl
theorem zk (s : ByteArray) (hs : s.size <= maxLen) (k : Nat) (p : Bool) : FCon Tryz.prog 146 [.s (.string s), .s (.int .i64 k), .s (.bool p)] (fun r _ => r = .s (.bool (ze s k p))) := by
 refine FI PM Tryz.func146 Tryz.ntmps146 [] rfl rfl ?_
 (have hWf := w4 @litTrue @Qe @litNil @litCons; repeat' (first | refine zS ?_ | refine zI ?_ ?_ | refine zK (zF s hs) ?_ | exact zF0 | refine zD fun hb => ?_ | exact zC | refine zT ?_ | fail))
 all_goals exact sB (by grind [ze])
theorem xW (s : ByteArray) (hs : s.size <= maxLen) (k : Nat) (p : Bool) : FCon Tryz.prog 129 [.s (.string s), .s (.int .i64 k), .s (.bool p)] (fun r _ => r = .s (.bool (ze s k p))) := by
 refine FI PM Tryz.func129 Tryz.ntmps129 [] rfl rfl ?_
 (have hWf := w4 @litTrue @Qe @litNil @litCons; repeat' (first | refine zS ?_ | refine zI ?_ ?_ | refine zK (ux s hs) ?_ | exact zF0 | refine zD fun hb => ?_ | exact zC | refine zT ?_ | fail))
 all_goals exact sB (by grind [ze])
theorem wI {p : Bool} {x : DPNode} (h : x.kind < 1 \/ 6 < x.kind) : yn p x = false := by
 unfold yn
 rw [if_neg (by omega), if_neg (by omega), if_neg (by omega), if_neg (by omega), if_neg (by omega)]
theorem patN_4 (xs : List DPNode) (n : Int) (s : ByteArray) (kids : List Int) (hs : s.size <= maxLen) (hkl : kids.length <= 1048576) (hin : ∀ h1 : kids.length = 1, ∃ k : Nat, kids[0]'(by omega) = (k : Int) /\ k < xs.length) : FCon Tryz.prog 97 [.ag [.sl 4 (xs.map DPNode.enc)], .ag (DPNode.mk 4 n s kids).enc] (fun r _ => r = .s (.bool (y3 xs ⟨4, n, s, kids⟩))) := by
 have e : y3 xs ⟨4, n, s, kids⟩ = ((n == 0) && ze s kids.length (wU xs kids)) := by unfold y3 yn; simp
 rw [e]
 match kids, hkl, hin with
 | [], _, _ =>
  refine FI PM Tryz.func97 Tryz.ntmps97 [(11, 21, [], [], (lin [] [0, 1, 2, 3, 4, 5, 6, 7, 8, 9, 10, 11, 12, 13, 14, 15, 16, 17, 18, 19, 20]))] rfl rfl ?_
  (have hWf := w1 @DPNode.enc_eq; repeat' (first | refine zS ?_ | refine zI ?_ ?_ | refine zK (zk s hs 0 false) ?_ | exact zF0 | refine zD fun hb => ?_ | exact zC | refine zT ?_ | fail))
  all_goals rfl
 | [z], _, hin =>
  obtain ⟨k, hz, hk⟩ := hin rfl
  have hz : z = (k : Int) := hz
  subst hz
  rw [Z0 xs [(k : Int)] rfl k hk rfl]
  have hg := xb DPNode.enc xs k hk
  have he := DPNode.enc_eq xs[k]
  refine FI PM Tryz.func97 Tryz.ntmps97 [(11, 21, [], [], (lin [] [0, 1, 2, 3, 4, 5, 6, 7, 8, 9, 10, 11, 12, 13, 14, 15, 16, 17, 18, 19, 20]))] rfl rfl ?_
  (have hWf := w4 @DPNode.enc_eq @hg @he @xn; repeat' (first | refine zS ?_ | refine zI ?_ ?_ | refine zK (zk s hs 1 (xs[k].kind == 5)) ?_ | exact zF0 | refine zD fun hb => ?_ | exact zC | refine zT ?_ | fail))
 | a :: b :: l, _, _ =>
  rw [Qm xs (a :: b :: l) (by simp)]
  have hl1 : (((l.length + 1 + 1 : Nat) : Int) == 1) = false := by simp; omega
  cases hn : (n == 0)
  all_goals
   refine FI (PMr [11]) Tryz.func97 Tryz.ntmps97 [(11, 21, [], [], (lin [] [0, 1, 2, 3, 4, 5, 6, 7, 8, 9, 10, 11, 12, 13, 14, 15, 16, 17, 18, 19, 20]))] rfl rfl ?_
   (have hWf := w4 @DPNode.enc_eq @xn @hl1 @hn; repeat' (first | refine zS ?_ | refine zI ?_ ?_ | refine zK (zk s hs (l.length + 1 + 1) false) ?_ | exact zF0 | refine zD fun hb => ?_ | exact zC | refine zT ?_ | fail))
theorem QS (xs : List DPNode) (x : DPNode) (hx : x.ok) (hkl : x.kids.length <= 1048576) (hin : ∀ h1 : x.kids.length = 1, ∃ k : Nat, x.kids[0]'(by omega) = (k : Int) /\ k < xs.length) : FCon Tryz.prog 97 [.ag [.sl 4 (xs.map DPNode.enc)], .ag x.enc] (fun r _ => r = .s (.bool (y3 xs x))) := by
 obtain ⟨kind, n, s, kids⟩ := x
 obtain ⟨-, -, hs, -⟩ := hx
 dsimp only at hkl hin hs
 by_cases hr : kind < 1 \/ 6 < kind
 ·rw [show y3 xs ⟨kind, n, s, kids⟩ = false from wI hr]
  have e1 : (kind == 1) = false := by simp; omega
  have e2 : (kind == 2) = false := by simp; omega
  have e3 : (kind == 3) = false := by simp; omega
  have e4 : (kind == 4) = false := by simp; omega
  have e5 : (kind == 5) = false := by simp; omega
  have e6 : (kind == 6) = false := by simp; omega
  refine FI PM Tryz.func97 Tryz.ntmps97 [(11, 21, [], [], (lin [] [0, 1, 2, 3, 4, 5, 6, 7, 8, 9, 10, 11, 12, 13, 14, 15, 16, 17, 18, 19, 20]))] rfl rfl ?_
  (have hWf := w7 @DPNode.enc_eq @e1 @e2 @e3 @e4 @e5 @e6; repeat' (first | refine zS ?_ | refine zI ?_ ?_ | exact zF0 | refine zD fun hb => ?_ | exact zC | refine zT ?_ | fail))
 ·by_cases h4 : kind = 4
  ·subst h4
   exact patN_4 xs n s kids hs hkl hin
  ·rcases (show kind = 1 \/ kind = 2 \/ kind = 3 \/ kind = 5 \/ kind = 6 by omega) with rfl | rfl | rfl | rfl | rfl
   all_goals
    clear hin h4 hr
    refine FI PM Tryz.func97 Tryz.ntmps97 [(11, 21, [], [], (lin [] [0, 1, 2, 3, 4, 5, 6, 7, 8, 9, 10, 11, 12, 13, 14, 15, 16, 17, 18, 19, 20]))] rfl rfl ?_
    (have hWf := w1 @DPNode.enc_eq; repeat' (first | refine zS ?_ | refine zI ?_ ?_ | refine zK (zR s hs) ?_ | refine zK (x8 n (-4611686018427387903) 4611686018427387903) ?_ | exact zF0 | refine zD fun hb => ?_ | exact zC | refine zT ?_ | fail))
    all_goals exact sB (by unfold y3 yn; first | (simp_all; done) | grind)
theorem geB {a b : Int} (h : a <= b) : decide (b ≥ a) = true := decide_eq_true h
theorem l04P_N (xs : List DPNode) (hl : xs.length <= 1048576) (kind n : Int) (s : ByteArray) (hs : s.size <= maxLen) : FCon Tryz.prog 74 [.ag [.sl 4 (xs.map DPNode.enc)], .ag (DPNode.mk kind n s []).enc] (fun r _ => r = .s (.bool (yn false ⟨kind, n, s, []⟩))) := by
 rcases (show (kind < 1 \/ 6 < kind) \/ kind = 1 \/ kind = 2 \/ kind = 3 \/ kind = 4 \/ kind = 5 \/ kind = 6 by omega) with hr | hin
 ·have e1 : (kind == 1) = false := by simp; omega
  have e2 : (kind == 2) = false := by simp; omega
  have e3 : (kind == 3) = false := by simp; omega
  have e4 : (kind == 4) = false := by simp; omega
  have e5 : (kind == 5) = false := by simp; omega
  have e6 : (kind == 6) = false := by simp; omega
  rw [wI (by exact hr)]
  refine FI (PMr [1]) Tryz.func74 Tryz.ntmps74 [(1, 28, [], [], (lin [] [0, 1, 2, 3, 4, 5, 6, 7, 8, 9, 10, 11, 12, 13, 14, 15, 16, 17, 18, 19, 20, 21, 22, 23, 24, 25, 26, 27]))] rfl rfl ?_
  (have hWf := w8 @DPNode.enc_eq @xn @e1 @e2 @e3 @e4 @e5 @e6; repeat' (first | refine zS ?_ | refine zI ?_ ?_ | exact zF0 | refine zD fun hb => ?_ | exact zC | refine zT ?_ | fail))
 ·rcases hin with rfl | rfl | rfl | rfl | rfl | rfl
  all_goals
   refine FI (PMr [1]) Tryz.func74 Tryz.ntmps74 [(1, 28, [], [], (lin [] [0, 1, 2, 3, 4, 5, 6, 7, 8, 9, 10, 11, 12, 13, 14, 15, 16, 17, 18, 19, 20, 21, 22, 23, 24, 25, 26, 27]))] rfl rfl ?_
   (have hWf := w2 @DPNode.enc_eq @xn; repeat' (first | refine zS ?_ | refine zI ?_ ?_ | ((with_reducible apply xc); refine zG (xW s hs _ _) ?_) | ((with_reducible apply xf); refine xe (xW s hs _ _) ?_) | refine zK (xA s hs) ?_ | exact zF0 | refine zD fun hb => ?_ | exact zC | refine zT ?_ | fail))
   all_goals exact sB (by unfold yn; first | (simp_all; done) | grind)
theorem l04P_B (xs : List DPNode) (hl : xs.length <= 1048576) (kind n : Int) (s : ByteArray) (hs : s.size <= maxLen) (z : Int) (g1 : decide (z ≥ 0) = false) : FCon Tryz.prog 74 [.ag [.sl 4 (xs.map DPNode.enc)], .ag (DPNode.mk kind n s [z]).enc] (fun r _ => r = .s (.bool (yn false ⟨kind, n, s, [z]⟩))) := by
 rcases (show (kind < 1 \/ 6 < kind) \/ kind = 1 \/ kind = 2 \/ kind = 3 \/ kind = 4 \/ kind = 5 \/ kind = 6 by omega) with hr | hin
 ·have e1 : (kind == 1) = false := by simp; omega
  have e2 : (kind == 2) = false := by simp; omega
  have e3 : (kind == 3) = false := by simp; omega
  have e4 : (kind == 4) = false := by simp; omega
  have e5 : (kind == 5) = false := by simp; omega
  have e6 : (kind == 6) = false := by simp; omega
  rw [wI (by exact hr)]
  refine FI (PMr [1]) Tryz.func74 Tryz.ntmps74 [(1, 28, [], [], (lin [] [0, 1, 2, 3, 4, 5, 6, 7, 8, 9, 10, 11, 12, 13, 14, 15, 16, 17, 18, 19, 20, 21, 22, 23, 24, 25, 26, 27]))] rfl rfl ?_
  (have hWf := w9 @DPNode.enc_eq @xn @g1 @e1 @e2 @e3 @e4 @e5 @e6; repeat' (first | refine zS ?_ | refine zI ?_ ?_ | exact zF0 | refine zD fun hb => ?_ | exact zC | refine zT ?_ | fail))
 ·rcases hin with rfl | rfl | rfl | rfl | rfl | rfl
  all_goals
   refine FI (PMr [1]) Tryz.func74 Tryz.ntmps74 [(1, 28, [], [], (lin [] [0, 1, 2, 3, 4, 5, 6, 7, 8, 9, 10, 11, 12, 13, 14, 15, 16, 17, 18, 19, 20, 21, 22, 23, 24, 25, 26, 27]))] rfl rfl ?_
   (have hWf := w3 @DPNode.enc_eq @xn @g1; repeat' (first | refine zS ?_ | refine zI ?_ ?_ | ((with_reducible apply xc); refine zG (xW s hs _ _) ?_) | ((with_reducible apply xf); refine xe (xW s hs _ _) ?_) | refine zK (xA s hs) ?_ | exact zF0 | refine zD fun hb => ?_ | exact zC | refine zT ?_ | fail))
   all_goals exact sB (by unfold yn; first | (simp_all; done) | grind)
theorem l04P_O (xs : List DPNode) (hl : xs.length <= 1048576) (kind n : Int) (s : ByteArray) (hs : s.size <= maxLen) (z : Int) (g1 : decide (z ≥ 0) = true) (g2 : decide (z < (xs.length : Int)) = false) : FCon Tryz.prog 74 [.ag [.sl 4 (xs.map DPNode.enc)], .ag (DPNode.mk kind n s [z]).enc] (fun r _ => r = .s (.bool (yn false ⟨kind, n, s, [z]⟩))) := by
 rcases (show (kind < 1 \/ 6 < kind) \/ kind = 1 \/ kind = 2 \/ kind = 3 \/ kind = 4 \/ kind = 5 \/ kind = 6 by omega) with hr | hin
 ·have e1 : (kind == 1) = false := by simp; omega
  have e2 : (kind == 2) = false := by simp; omega
  have e3 : (kind == 3) = false := by simp; omega
  have e4 : (kind == 4) = false := by simp; omega
  have e5 : (kind == 5) = false := by simp; omega
  have e6 : (kind == 6) = false := by simp; omega
  rw [wI (by exact hr)]
  refine FI (PMr [1]) Tryz.func74 Tryz.ntmps74 [(1, 28, [], [], (lin [] [0, 1, 2, 3, 4, 5, 6, 7, 8, 9, 10, 11, 12, 13, 14, 15, 16, 17, 18, 19, 20, 21, 22, 23, 24, 25, 26, 27]))] rfl rfl ?_
  (have hWf := w10 @DPNode.enc_eq @xn @g1 @g2 @e1 @e2 @e3 @e4 @e5 @e6; repeat' (first | refine zS ?_ | refine zI ?_ ?_ | exact zF0 | refine zD fun hb => ?_ | exact zC | refine zT ?_ | fail))
 ·rcases hin with rfl | rfl | rfl | rfl | rfl | rfl
  all_goals
   refine FI (PMr [1]) Tryz.func74 Tryz.ntmps74 [(1, 28, [], [], (lin [] [0, 1, 2, 3, 4, 5, 6, 7, 8, 9, 10, 11, 12, 13, 14, 15, 16, 17, 18, 19, 20, 21, 22, 23, 24, 25, 26, 27]))] rfl rfl ?_
   (have hWf := w4 @DPNode.enc_eq @xn @g1 @g2; repeat' (first | refine zS ?_ | refine zI ?_ ?_ | ((with_reducible apply xc); refine zG (xW s hs _ _) ?_) | ((with_reducible apply xf); refine xe (xW s hs _ _) ?_) | refine zK (xA s hs) ?_ | exact zF0 | refine zD fun hb => ?_ | exact zC | refine zT ?_ | fail))
   all_goals exact sB (by unfold yn; first | (simp_all; done) | grind)
theorem l04P_K (xs : List DPNode) (hl : xs.length <= 1048576) (kind n : Int) (s : ByteArray) (hs : s.size <= maxLen) (k : Nat) (hk : k < xs.length) : FCon Tryz.prog 74 [.ag [.sl 4 (xs.map DPNode.enc)], .ag (DPNode.mk kind n s [(k : Int)]).enc] (fun r _ => r = .s (.bool (yn (xs[k].kind == 5) ⟨kind, n, s, [(k : Int)]⟩))) := by
 have g1 := geB (Int.natCast_nonneg k)
 have g2 := decide_eq_true (show (k : Int) < xs.length by omega)
 have g3 := xb DPNode.enc xs k hk
 have g4 := DPNode.enc_eq xs[k]
 rcases (show (kind < 1 \/ 6 < kind) \/ kind = 1 \/ kind = 2 \/ kind = 3 \/ kind = 4 \/ kind = 5 \/ kind = 6 by omega) with hr | hin
 ·have e1 : (kind == 1) = false := by simp; omega
  have e2 : (kind == 2) = false := by simp; omega
  have e3 : (kind == 3) = false := by simp; omega
  have e4 : (kind == 4) = false := by simp; omega
  have e5 : (kind == 5) = false := by simp; omega
  have e6 : (kind == 6) = false := by simp; omega
  rw [wI (by exact hr)]
  refine FI (PMr [1]) Tryz.func74 Tryz.ntmps74 [(1, 28, [], [], (lin [] [0, 1, 2, 3, 4, 5, 6, 7, 8, 9, 10, 11, 12, 13, 14, 15, 16, 17, 18, 19, 20, 21, 22, 23, 24, 25, 26, 27]))] rfl rfl ?_
  (have hWf := w10 @DPNode.enc_eq @xn @g1 @g2 @g3 @g4 @e1 @e2 @e3 (ai @e4 <| ai @e5 <| @e6); repeat' (first | refine zS ?_ | refine zI ?_ ?_ | exact zF0 | refine zD fun hb => ?_ | exact zC | refine zT ?_ | fail))
 ·rcases hin with rfl | rfl | rfl | rfl | rfl | rfl
  all_goals
   refine FI (PMr [1]) Tryz.func74 Tryz.ntmps74 [(1, 28, [], [], (lin [] [0, 1, 2, 3, 4, 5, 6, 7, 8, 9, 10, 11, 12, 13, 14, 15, 16, 17, 18, 19, 20, 21, 22, 23, 24, 25, 26, 27]))] rfl rfl ?_
   (have hWf := w6 @DPNode.enc_eq @xn @g1 @g2 @g3 @g4; repeat' (first | refine zS ?_ | refine zI ?_ ?_ | ((with_reducible apply xc); refine zG (xW s hs _ _) ?_) | ((with_reducible apply xf); refine xe (xW s hs _ _) ?_) | refine zK (xA s hs) ?_ | exact zF0 | refine zD fun hb => ?_ | exact zC | refine zT ?_ | fail))
   all_goals exact sB (by unfold yn; first | (simp_all; done) | grind)
theorem l04P_L (xs : List DPNode) (hl : xs.length <= 1048576) (kind n : Int) (s : ByteArray) (hs : s.size <= maxLen) (a b : Int) (l : List Int) (hkl : l.length <= 1048576) : FCon Tryz.prog 74 [.ag [.sl 4 (xs.map DPNode.enc)], .ag (DPNode.mk kind n s (a :: b :: l)).enc] (fun r _ => r = .s (.bool (yn false ⟨kind, n, s, (a :: b :: l)⟩))) := by
 have g1 : (((l.length + 1 + 1 : Nat) : Int) == 1) = false := by simp; omega
 rcases (show (kind < 1 \/ 6 < kind) \/ kind = 1 \/ kind = 2 \/ kind = 3 \/ kind = 4 \/ kind = 5 \/ kind = 6 by omega) with hr | hin
 ·have e1 : (kind == 1) = false := by simp; omega
  have e2 : (kind == 2) = false := by simp; omega
  have e3 : (kind == 3) = false := by simp; omega
  have e4 : (kind == 4) = false := by simp; omega
  have e5 : (kind == 5) = false := by simp; omega
  have e6 : (kind == 6) = false := by simp; omega
  rw [wI (by exact hr)]
  refine FI (PMr [1]) Tryz.func74 Tryz.ntmps74 [(1, 28, [], [], (lin [] [0, 1, 2, 3, 4, 5, 6, 7, 8, 9, 10, 11, 12, 13, 14, 15, 16, 17, 18, 19, 20, 21, 22, 23, 24, 25, 26, 27]))] rfl rfl ?_
  (have hWf := w9 @DPNode.enc_eq @xn @g1 @e1 @e2 @e3 @e4 @e5 @e6; repeat' (first | refine zS ?_ | refine zI ?_ ?_ | exact zF0 | refine zD fun hb => ?_ | exact zC | refine zT ?_ | fail))
 ·rcases hin with rfl | rfl | rfl | rfl | rfl | rfl
  all_goals
   refine FI (PMr [1]) Tryz.func74 Tryz.ntmps74 [(1, 28, [], [], (lin [] [0, 1, 2, 3, 4, 5, 6, 7, 8, 9, 10, 11, 12, 13, 14, 15, 16, 17, 18, 19, 20, 21, 22, 23, 24, 25, 26, 27]))] rfl rfl ?_
   (have hWf := w3 @DPNode.enc_eq @xn @g1; repeat' (first | refine zS ?_ | refine zI ?_ ?_ | ((with_reducible apply xc); refine zG (xW s hs _ _) ?_) | ((with_reducible apply xf); refine xe (xW s hs _ _) ?_) | refine zK (xA s hs) ?_ | exact zF0 | refine zD fun hb => ?_ | exact zC | refine zT ?_ | fail))
   all_goals exact sB (by unfold yn; first | (simp_all; done) | grind)
theorem xaf (xs : List DPNode) (x : DPNode) (hx : x.ok) (hl : xs.length <= 1048576) (hkl : x.kids.length <= 1048576) : FCon Tryz.prog 74 [.ag [.sl 4 (xs.map DPNode.enc)], .ag x.enc] (fun r _ => r = .s (.bool (y3 xs x))) := by
 obtain ⟨kind, n, s, kids⟩ := x
 obtain ⟨-, -, hs, -⟩ := hx
 dsimp only at hkl hs
 show FCon Tryz.prog 74 _ (fun r _ => r = .s (.bool (yn (wU xs kids) ⟨kind, n, s, kids⟩)))
 match kids, hkl with
 | [], _ => exact l04P_N xs hl kind n s hs
 | [z], _ =>
  by_cases h0 : z < 0
  ·rw [U2 xs [z] rfl (.inl h0)]
   exact l04P_B xs hl kind n s hs z (decide_eq_false (by omega))
  ·by_cases h1 : (xs.length : Int) <= z
   ·rw [U2 xs [z] rfl (.inr h1)]
    exact l04P_O xs hl kind n s hs z (decide_eq_true (by omega)) (decide_eq_false (by omega))
   ·have hk : z.toNat < xs.length := by omega
    obtain ⟨k, rfl⟩ : ∃ k : Nat, z = (k : Int) := ⟨z.toNat, by omega⟩
    have hk : k < xs.length := by omega
    rw [Z0 xs [(k : Int)] rfl k hk rfl]
    exact l04P_K xs hl kind n s hs k hk
 | a :: b :: l, hkl =>
  rw [Qm _ _ (by simp)]
  exact l04P_L xs hl kind n s hs a b l (by simp at hkl; omega)
theorem Uv (xs : List DPNode) (hl : xs.length <= 1000000000) (hks : ∀ x ∈ xs, x.kids.length <= 1000000000) :
  ∀ (N m : Nat), xs.length - m <= N -> m <= 2000000000 -> FCon Tryz.prog 75 [.ag [.sl 4 (xs.map DPNode.enc)], .s (.int .i64 m)] (fun r _ => r = .s (.int .i64 (endZ (pEnd (yz xs) N m)))) := by
 have hlen : (yz xs).length = xs.length := by simp
 have out : ∀ (N m : Nat), xs.length <= m -> m <= 2000000000 -> FCon Tryz.prog 75 [.ag [.sl 4 (xs.map DPNode.enc)], .s (.int .i64 m)] (fun r _ => r = .s (.int .i64 (endZ (pEnd (yz xs) N m)))) := by
  intro N m hm hm2
  rw [vB _ _ _ (by rw [hlen]; exact hm)]
  refine FI PM Tryz.func75 Tryz.ntmps75 [] rfl rfl ?_
  (have hWf := f0; repeat' (first | refine zS ?_ | refine zI ?_ ?_ | exact zF0 | refine zD fun hb => ?_ | exact zC | refine zT ?_ | fail))
  all_goals (try rfl)
 intro N
 induction N with
 | zero => intro m hm hm2; exact out 0 m (by omega) hm2
 | succ N ih =>
  intro m hm hm2
  by_cases hlt : m < xs.length
  ·have hx := xb DPNode.enc xs m hlt
   have he := DPNode.enc_eq xs[m]
   have hkl := hks _ (List.getElem_mem hlt)
   rw [Xq _ _ _ (by rw [hlen]; exact hlt)]
   have hka : (yz xs)[m]'(by rw [hlen]; exact hlt) = xs[m].kids := by simp [yz]
   rw [hka]
   obtain ⟨R, hR⟩ : ∃ R, yH (pEnd (yz xs) N) xs[m].kids (m + 1) = R := ⟨_, rfl⟩
   rw [hR]
   refine FI PM Tryz.func75 Tryz.ntmps75 [] rfl rfl ?_
   (have hWf := w2 @hx @he; repeat' (first | refine zS ?_ | refine zI ?_ ?_ | exact zF0 | refine zD fun hb => ?_ | exact zC | refine zT ?_ | fail))
   refine xd (fun n σ => ∃ j cur : Nat, j <= xs[m].kids.length /\ n = xs[m].kids.length - j /\ m < cur /\ cur <= 2000000000 /\ yH (pEnd (yz xs) N) (xs[m].kids.drop j) cur = R /\ σ.t 2 = .bx 2 0 /\ σ.b 2 = some (.box [.sl 4 (xs.map DPNode.enc)]) /\ σ.t 5 = .s (.int .i64 cur) /\ σ.t 20 = xJ xs[m].kids /\ σ.t 21 = .s (.int .i64 xs[m].kids.length) /\ σ.t 22 = .s (.int .i64 j)) xs[m].kids.length ⟨0, m + 1, by omega, by omega, by omega, by omega, by rw [List.drop_zero]; exact hR, ?_⟩ ?_
   ·simp only [go_sem, simprocAttr]
    simp
   ·rintro n σ ⟨j, cur, hj, rfl, hcur, hc2, hp, h2, hb2, h5, h20, h21, h22⟩ K' hK
    by_cases hjl : j < xs[m].kids.length
    ·have gx := xb iE xs[m].kids j hjl
     rw [Yu _ j hjl, wT] at hp
     by_cases hkc : xs[m].kids[j] = (cur : Int)
     ·have hw : x7 (yz xs) N xs[m].kids[j] cur = pEnd (yz xs) N cur := by unfold x7; rw [if_pos hkc]
      rw [hw] at hp
      have hkn : ((cur : Int) != (cur : Int)) = false := bne_self_eq_false _
      have hcc := ih cur (by omega) hc2
      cases hq : pEnd (yz xs) N cur with
      | none =>
       rw [hq] at hcc hp
       have hcc : FCon Tryz.prog 75 [.ag [.sl 4 (xs.map DPNode.enc)], .s (.int .i64 cur)] (fun r _ => r = .s (.int .i64 (-1))) := hcc
       (have hWf := w10 @h2 @hb2 @h5 @h20 @h21 @h22 @gx @xn @hkc @hkn; repeat' (first | refine zS ?_ | refine zI ?_ ?_ | refine zK hcc ?_ | exact zF0 | refine zD fun hb => ?_ | exact zC | refine zT ?_ | fail))
       all_goals (rw [<- hp]; rfl)
      | some e1 =>
       rw [hq] at hcc hp
       have hcc : FCon Tryz.prog 75 [.ag [.sl 4 (xs.map DPNode.enc)], .s (.int .i64 cur)] (fun r _ => r = .s (.int .i64 (e1 : Int))) := hcc
       have hbd := Xr _ _ _ _ hq
       rw [hlen] at hbd
       (have hWf := w10 @h2 @hb2 @h5 @h20 @h21 @h22 @gx @xn @hkc @hkn; repeat' (first | refine zS ?_ | refine zI ?_ ?_ | refine zK hcc ?_ | exact zF0 | refine zD fun hb => ?_ | exact zC | refine zT ?_ | fail))
       refine hK (xs[m].kids.length - (j + 1)) _ (by omega) ⟨j + 1, e1, by omega, rfl, by omega, by omega, hp, ?_⟩
       simp only [go_sem, simprocAttr, h2, hb2, h5, h20, h21, h22]
       simp
     ·have hw : x7 (yz xs) N xs[m].kids[j] cur = none := by unfold x7; rw [if_neg hkc]
      rw [hw] at hp
      have hne : (xs[m].kids[j] != (cur : Int)) = true := by simpa using hkc
      (have hWf := w9 @h2 @hb2 @h5 @h20 @h21 @h22 @gx @xn @hne; repeat' (first | refine zS ?_ | refine zI ?_ ?_ | exact zF0 | refine zD fun hb => ?_ | exact zC | refine zT ?_ | fail))
      all_goals (rw [<- hp]; rfl)
    ·obtain rfl : j = xs[m].kids.length := by omega
     rw [List.drop_eq_nil_of_le (Nat.le_refl _)] at hp
     (have hWf := w6 @h2 @hb2 @h5 @h20 @h21 @h22; repeat' (first | refine zS ?_ | refine zI ?_ ?_ | exact zF0 | refine zD fun hb => ?_ | exact zC | refine zT ?_ | fail))
     rw [<- hp]; rfl
  ·exact out (N + 1) m (by omega) hm2
theorem Xg (xs : List DPNode) (ho : ∀ x ∈ xs, x.ok) (hs : smS DPNode.sm xs) : FCon Tryz.prog 35 [.ag [.sl 4 (xs.map DPNode.enc)]] (fun r _ => r = .s (.bool (patM xs))) := by
 have hl := hs.1
 have hkl : ∀ x ∈ xs, x.kids.length <= 1048576 := fun x hx => (hs.2 x hx).2.1
 by_cases h600 : 1 <= xs.length /\ xs.length <= 600
 ·obtain ⟨h6, h7⟩ := h600
  refine FI PM Tryz.func35 Tryz.ntmps35 [(11, 21, [], [], (lin [] [0, 1, 2, 3, 4, 5, 6, 7, 8, 9, 10, 11, 12, 13, 14, 15, 16, 17, 18, 19, 20])), (14, 5, [], [], (lin [] [0, 1, 2, 3, 4]))] rfl rfl ?_
  (have hWf := f0; repeat' (first | refine zS ?_ | refine zI ?_ ?_ | exact zF0 | refine zD fun hb => ?_ | exact zC | refine zT ?_ | fail))
  refine xd (fun n σ => ∃ k : Nat, k <= xs.length /\ n = xs.length - k /\ σ.t 1 = .bx 1 0 /\ σ.b 1 = some (.box [.sl 4 (xs.map DPNode.enc)]) /\ σ.t 17 = .sl 4 (xs.map DPNode.enc) /\ σ.t 18 = .s (.int .i64 xs.length) /\ σ.t 19 = .s (.int .i64 k) /\ ∀ j (hj : j < xs.length), j < k -> yj xs j hj = true) xs.length ⟨0, by omega, by omega, ?_⟩ ?_
  ·simp only [go_sem, simprocAttr, Int.natCast_zero]
   simp
  ·rintro n σ ⟨k, hk, rfl, h1, hb1, h17, h18, h19, hg⟩ K' hK
   by_cases hlt : k < xs.length
   ·have hx := xb DPNode.enc xs k hlt
    have he := DPNode.enc_eq xs[k]
    have hmem := List.getElem_mem hlt
    have hn := xaf xs xs[k] (ho _ hmem) hl (hkl _ hmem)
    cases hpn : y3 xs xs[k] with
    | false =>
     rw [hpn] at hn
     (have hWf := w7 @h1 @hb1 @h17 @h18 @h19 @hx @he; repeat' (first | refine zS ?_ | refine zI ?_ ?_ | refine zK hn ?_ | exact zF0 | refine zD fun hb => ?_ | exact zC | refine zT ?_ | fail))
     all_goals exact sB (XS hlt (Zu hlt hpn)).symm
    | true =>
     rw [hpn] at hn
     (have hWf := w7 @h1 @hb1 @h17 @h18 @h19 @hx @he; repeat' (first | refine zS ?_ | refine zI ?_ ?_ | refine zK hn ?_ | exact zF0 | refine zD fun hb => ?_ | exact zC | refine zT ?_ | fail))
     refine xd (fun n σ => ∃ j : Nat, j <= k /\ n = k - j /\ σ.t 1 = .bx 1 0 /\ σ.b 1 = some (.box [.sl 4 (xs.map DPNode.enc)]) /\ σ.t 3 = .s (.int .i64 k) /\ σ.t 4 = .bx 4 0 /\ σ.b 4 = some (.box [.s (.int .i64 xs[k].kind), .s (.int .i64 xs[k].n), .s (.string xs[k].s), .sl 1 (xs[k].kids.map iE)]) /\ σ.t 5 = .s (.int .i64 j) /\ σ.t 17 = .sl 4 (xs.map DPNode.enc) /\ σ.t 18 = .s (.int .i64 xs.length) /\ σ.t 19 = .s (.int .i64 k) /\ ∀ i (hi : i < j) (hk : i < xs.length), dupB xs[i] xs[k] = false) k ⟨0, by omega, by omega, ?_⟩ ?_
     ·simp only [go_sem, simprocAttr, h1, hb1, h17, h18, h19, Int.natCast_zero]
      simp
     ·rintro n σ ⟨j, hj, rfl, g1, gb1, g3, g4, gb4, g5, g17, g18, g19, hno⟩ K'' hK''
      by_cases hjl : j < k
      ·have gx := xb DPNode.enc xs j (by omega)
       have ge := DPNode.enc_eq (xs[j]'(by omega))
       (have hWf := w10 @g1 @gb1 @g3 @g4 @gb4 @g5 @g17 @g18 @g19 (ai @gx <| @ge); repeat' (first | refine zS ?_ | refine zI ?_ ?_ | exact zF0 | refine zD fun hb => ?_ | exact zC | refine zT ?_ | fail))
       ·exact fun h => ⟨h, h, by omega, by omega⟩
       ·exact fun h => ⟨h, h, by omega, by omega⟩
       ·refine sB (XS hlt (Zv hlt hjl ?_)).symm
        unfold dupB
        rw [hb.1.1, hb.1.2, toL_inj hb.2]; simp
       ·refine hK'' (k - (j + 1)) _ (by omega) ⟨j + 1, by omega, rfl, ?_⟩
        simp only [go_sem, simprocAttr, g1, gb1, g3, g4, gb4, g17, g18, g19, Int.natCast_succ]
        intro i hi hik
        rcases Nat.lt_or_ge i j with q | q
        ·exact hno i q hik
        ·obtain rfl : i = j := by omega
         unfold dupB
         rcases hb with (hb | hb) | hb
         ·rw [show (xs[k].kind == 2) = false by simpa using hb]; rfl
         ·rw [show (xs[i].kind == 2) = false by simpa using hb]; simp
         ·rw [decide_eq_false (fun e => hb (by rw [e]))]; simp
      ·obtain rfl : j = k := by omega
       (have hWf := w9 @g1 @gb1 @g3 @g4 @gb4 @g5 @g17 @g18 @g19; repeat' (first | refine zS ?_ | refine zI ?_ ?_ | exact zF0 | refine zD fun hb => ?_ | exact zC | refine zT ?_ | fail))
       refine hK (xs.length - (j + 1)) _ (by omega) ⟨j + 1, by omega, rfl, ?_⟩
       simp only [go_sem, simprocAttr, g1, gb1, g17, g18, g19, Int.natCast_succ]
       exact Yy hg hlt (UN hlt hpn fun i hi => hno i hi (by omega))
   ·obtain rfl : k = xs.length := by omega
    (have hWf := w5 @h1 @hb1 @h17 @h18 @h19; repeat' (first | refine zS ?_ | refine zI ?_ ?_ | ((with_reducible apply xc); refine zG (Uv xs (by omega) (fun x hx => by have := hkl x hx; omega) xs.length 0 (by omega) (by omega)) ?_) | refine zU (Uv xs (by omega) (fun x hx => by have := hkl x hx; omega) xs.length 0 (by omega) (by omega)) ?_ | exact zF0 | refine zD fun hb => ?_ | exact zC | refine zT ?_ | fail))
    refine sB ?_
    have hall : (List.finRange xs.length).all (fun i => yj xs i.1 i.2) = true := WT.2 fun i => hg i.1 i.2 i.2
    unfold patM
    rw [hall, decide_eq_true h6, decide_eq_true h7, ZK]
    unfold xL
    rw [vW]; rfl
 ·have hb : patM xs = false := by
   unfold patM
   by_cases q : 1 <= xs.length
   ·rw [decide_eq_false (p := xs.length <= 600) (by omega)]; simp
   ·rw [decide_eq_false q]; simp
  rw [hb]
  refine FI PM Tryz.func35 Tryz.ntmps35 [(11, 21, [], [], (lin [] [0, 1, 2, 3, 4, 5, 6, 7, 8, 9, 10, 11, 12, 13, 14, 15, 16, 17, 18, 19, 20])), (14, 5, [], [], (lin [] [0, 1, 2, 3, 4]))] rfl rfl ?_
  by_cases q : xs.length < 1
  ·have e1 : decide ((xs.length : Int) < 1) = true := decide_eq_true (by omega)
   (have hWf := w1 @e1; repeat' (first | refine zS ?_ | refine zI ?_ ?_ | exact zF0 | refine zD fun hb => ?_ | exact zC | refine zT ?_ | fail))
  ·have e1 : decide ((xs.length : Int) < 1) = false := decide_eq_false (by omega)
   have e2 : decide ((xs.length : Int) > 600) = true := decide_eq_true (by omega)
   (have hWf := w2 @e1 @e2; repeat' (first | refine zS ?_ | refine zI ?_ ?_ | exact zF0 | refine zD fun hb => ?_ | exact zC | refine zT ?_ | fail))
theorem Zn (xs : List DPNode) (ho : ∀ x ∈ xs, x.ok) (hs : smS DPNode.sm xs) : FCon Tryz.prog 46 [.ag [.sl 4 (xs.map DPNode.enc)]] (fun r _ => r = .s (.bool (patM xs))) := by
 have hl := hs.1
 have hkl : ∀ x ∈ xs, x.kids.length <= 1048576 := fun x hx => (hs.2 x hx).2.1
 refine FI PM Tryz.func46 Tryz.ntmps46 [] rfl rfl ?_
 (refine xj ?_; simp only [go_sem, simprocAttr]; (have hWf := f0; repeat' (first | refine zY ?_ | refine zI ?_ ?_ | exact zF1 | refine zD fun hb => ?_ | exact zC | refine zT ?_ | fail)))
 refine yS 1 (.box [.sl 4 (xs.map DPNode.enc)]) (by simp only [go_sem, simprocAttr]) rfl ?_
 (have hWf := f0; repeat' (first | refine zS ?_ | refine zI ?_ ?_ | refine zK (x8 xs.length 1 600) ?_ | ((with_reducible apply xc); refine zG (Wi xs ho (by omega) (fun x hx => by have := hkl x hx; omega)) ?_) | refine zU (Wi xs ho (by omega) (fun x hx => by have := hkl x hx; omega)) ?_ | exact zF0 | refine zD fun hb => ?_ | exact zC | refine zT ?_ | fail))
 ·refine sB ?_
  unfold patM
  rcases hb with (hb | hb) | hb
  ·rw [decide_eq_false (by omega : ¬ 1 <= xs.length)]; rfl
  ·rw [decide_eq_false (by omega : ¬ xs.length <= 600)]; simp
  ·rw [hb]; simp
 ·obtain ⟨⟨h6, h7⟩, hord⟩ : (1 <= xs.length /\ xs.length <= 600) /\ xL (yz xs) = true := by
   exact ⟨⟨by omega, by omega⟩, hb.2⟩
  refine xd (fun n σ => ∃ (k : Nat) (ns : List ByteArray), k <= xs.length /\ n = xs.length - k /\ NamesAt xs k ns /\ σ.t 1 = .pt [.sl 4 (xs.map DPNode.enc)] /\ σ.t 3 = .bs 19 1 ns.length /\ σ.b 19 = some (.arr 9 1 (ns.map stE)) /\ σ.t 21 = .sl 4 (xs.map DPNode.enc) /\ σ.t 22 = .s (.int .i64 xs.length) /\ σ.t 23 = .s (.int .i64 k) /\ ∀ j (hj : j < xs.length), j < k -> yj xs j hj = true) xs.length ⟨0, [], by omega, by omega, NamesAt.zero xs, ?_⟩ ?_
  ·simp only [go_sem, simprocAttr, Int.natCast_zero]
   simp
  ·rintro n σ ⟨k, ns, hk, rfl, hns, h1, h3, hb3, h21, h22, h23, hg⟩ K' hK
   have hnl := hns.1
   by_cases hlt : k < xs.length
   ·have hx := xb DPNode.enc xs k hlt
    have he := DPNode.enc_eq xs[k]
    have hmem := List.getElem_mem hlt
    have hn := QS xs xs[k] (ho _ hmem) (hkl _ hmem) (fun h1 => order_inP hord k hlt h1)
    cases hpn : y3 xs xs[k] with
    | false =>
     rw [hpn] at hn
     (have hWf := w9 @h1 @h3 @hb3 @h21 @h22 @h23 @hx @he @yQ; repeat' (first | refine zS ?_ | refine zI ?_ ?_ | refine zK hn ?_ | refine zK (yu ns xs[k].s) ?_ | exact zF0 | refine zD fun hb => ?_ | exact zC | refine zT ?_ | fail))
     all_goals exact sB (XS hlt (Zu hlt hpn)).symm
    | true =>
     rw [hpn] at hn
     cases h2 : (xs[k].kind == 2) with
     | false =>
      have h2' : xs[k].kind ≠ 2 := by simpa using h2
      (have hWf := w10 @h1 @h3 @hb3 @h21 @h22 @h23 @hx @he @h2 @yQ; repeat' (first | refine zS ?_ | refine zI ?_ ?_ | refine zK hn ?_ | refine zK (yu ns xs[k].s) ?_ | exact zF0 | refine zD fun hb => ?_ | exact zC | refine zT ?_ | fail))
      refine hK (xs.length - (k + 1)) _ (by omega) ⟨k + 1, ns, by omega, rfl, hns.skip hlt h2', ?_⟩
      simp only [go_sem, simprocAttr, h1, h3, hb3, h21, h22, Int.natCast_succ]
      exact Yy hg hlt (hns.none hlt hpn fun h => absurd h h2')
     | true =>
      have h2' : xs[k].kind = 2 := by simpa using h2
      cases hi : inL xs[k].s ns with
      | true =>
       (have hWf := w10 @h1 @h3 @hb3 @h21 @h22 @h23 @hx @he @h2 (ai @hi <| @yQ); repeat' (first | refine zS ?_ | refine zI ?_ ?_ | refine zK hn ?_ | refine zK (yu ns xs[k].s) ?_ | exact zF0 | refine zD fun hb => ?_ | exact zC | refine zT ?_ | fail))
       all_goals exact sB (XS hlt (hns.dup hlt h2' hi)).symm
      | false =>
       (have hWf := w10 @h1 @h3 @hb3 @h21 @h22 @h23 @hx @he @h2 (ai @hi <| @yQ); repeat' (first | refine zS ?_ | refine zI ?_ ?_ | refine zK hn ?_ | refine zK (yu ns xs[k].s) ?_ | exact zF0 | refine zD fun hb => ?_ | exact zC | refine zT ?_ | fail))
       refine hK (xs.length - (k + 1)) _ (by omega) ⟨k + 1, ns ++ [xs[k].s], by omega, rfl, hns.add hlt h2', ?_⟩
       simp only [go_sem, simprocAttr, h1, h3, hb3, h21, h22, Int.natCast_succ, List.map_append, List.length_append, stE_eq]
       exact Yy hg hlt (hns.none hlt hpn fun _ => hi)
   ·obtain rfl : k = xs.length := by omega
    (have hWf := w6 @h1 @h3 @hb3 @h21 @h22 @h23; repeat' (first | refine zS ?_ | refine zI ?_ ?_ | exact zF0 | refine zD fun hb => ?_ | exact zC | refine zT ?_ | fail))
    refine sB ?_
    have hall : (List.finRange xs.length).all (fun i => yj xs i.1 i.2) = true := WT.2 fun i => hg i.1 i.2 i.2
    unfold patM
    rw [hall, decide_eq_true h6, decide_eq_true h7, hord]; rfl
end
section
open Arb
structure PI where
 kind : Int
 n : Int
 s : ByteArray
abbrev PT := Arb PI
def PI.node (a : PI) (l : List Int) : DPNode := ⟨a.kind, a.n, a.s, l⟩
def DPNode.inf (x : DPNode) : PI := ⟨x.kind, x.n, x.s⟩
theorem PI.node_inf (x : DPNode) : x.inf.node x.kids = x := rfl
inductive PV (a : PI) (l : List PT) : Prop where
 | wild : a.kind = 1 -> l = [] -> a.n = 0 -> a.s.toList = [] -> PV a l
 | var : a.kind = 2 -> l = [] -> a.n = 0 -> xU a.s = true -> PV a l
 | int : a.kind = 3 -> l = [] -> -4611686018427387903 <= a.n -> a.n <= 4611686018427387903 -> a.s.toList = [] -> PV a l
 | con0 : a.kind = 4 -> l = [] -> a.n = 0 -> ze a.s 0 false = true -> PV a l
 | cons (b : PI) (x y : PT) : a.kind = 4 -> l = [.mk b [x, y]] -> a.n = 0 -> b.kind = 5 -> a.s.toList = [58, 58] -> PV a l
 | con1 (x : PT) : a.kind = 4 -> l = [x] -> a.n = 0 -> conM a.s.data.toList = true -> PV a l
 | pair (x y : PT) : a.kind = 5 -> l = [x, y] -> a.n = 0 -> a.s.toList = [] -> PV a l
 | unit : a.kind = 6 -> l = [] -> a.n = 0 -> a.s.toList = [] -> PV a l
abbrev okP (t : PT) : Prop := All PV t
theorem pairP_idx {xs : List DPNode} {m : Nat} {b : PI} {l : List PT} (h : At PI.node xs m (.mk b l)) : wU xs (idxs m [.mk b l]) = (b.kind == 5) := by
 obtain ⟨hm, he⟩ := List.getElem?_eq_some_iff.1 h.root
 rw [Z0 xs _ (by simp [idxs]) m hm (by simp [idxs]), he]; rfl
theorem shapeM_0' {s : ByteArray} {p : Bool} (h : ze s 0 p = true) : ze s 0 false = true := by
 unfold ze at h ⊢
 split
 ·rfl
 ·rename_i h1
  rw [if_neg h1] at h
  split
  ·rename_i h2; rw [if_pos h2] at h; simp at h
  ·rename_i h2; rw [if_neg h2] at h; exact h
theorem pview_of {xs : List DPNode} (hg : ∀ k (h : k < xs.length), y3 xs xs[k] = true) {m : Nat} {a : PI} {l : List PT} (h : At PI.node xs m (.mk a l)) : PV a l := by
 have np : ∀ {m : Nat} {a : PI} {l : List PT}, At PI.node xs m (.mk a l) -> yn (wU xs (idxs (m + 1) l)) (a.node (idxs (m + 1) l)) = true := fun h => by
  obtain ⟨hm, he⟩ := List.getElem?_eq_some_iff.1 h.root
  have := hg _ hm
  rw [he] at this
  exact this
 have N := np h
 have hk := h.kids
 unfold yn PI.node at N
 simp only [idxs_len] at N
 have nil : ((l.length : Nat) : Int) = 0 -> l = [] := fun h => List.eq_nil_of_length_eq_zero (by omega)
 split at N
 ·rename_i k
  simp only [Bool.and_eq_true, beq_iff_eq, decide_eq_true_eq, List.isEmpty_iff] at N
  exact .int k (nil N.1.1) N.2.1 N.2.2 N.1.2
 split at N
 ·rename_i k
  simp only [Bool.and_eq_true, beq_iff_eq, decide_eq_true_eq, List.isEmpty_iff] at N
  exact .var k (nil N.1.1) N.1.2 N.2
 split at N
 ·rename_i k
  simp only [Bool.and_eq_true, beq_iff_eq, decide_eq_true_eq, List.isEmpty_iff] at N
  rcases k with k | k
  ·exact .unit k (nil N.1.1) N.1.2 N.2
  ·exact .wild k (nil N.1.1) N.1.2 N.2
 split at N
 ·rename_i k
  simp only [Bool.and_eq_true, beq_iff_eq, decide_eq_true_eq, List.isEmpty_iff] at N
  match l, N.1.1 with
  | [x, y], _ => exact .pair x y k rfl N.1.2 N.2
  | [], h => simp at h
  | [x], h => simp at h
  | x :: y :: z :: r, h => simp at h; omega
 split at N
 ·rename_i k
  simp only [Bool.and_eq_true, beq_iff_eq] at N
  obtain ⟨n0, N⟩ := N
  match l, hk, N with
  | [], _, N => exact .con0 k rfl n0 (shapeM_0' N)
  | [.mk b r], hk, N =>
   rw [pairP_idx hk.head] at N
   unfold ze at N
   split at N
   ·simp at N
   ·split at N
    ·rename_i hs
     simp only [List.length_singleton, Bool.and_eq_true, beq_iff_eq] at N hs
     have N2 := np hk.head
     unfold yn PI.node at N2
     simp only [N.2, idxs_len, Int.reduceEq, if_false, if_true, or_self, reduceIte, Bool.and_eq_true, beq_iff_eq, List.isEmpty_iff] at N2
     match r, N2.1.1 with
     | [x, y], _ => exact .cons b x y k rfl n0 N.2 hs
     | [], h => simp at h
     | [x], h => simp at h
     | x :: y :: z :: r, h => simp at h; omega
    ·simp only [Bool.and_eq_true] at N
     exact .con1 _ k rfl n0 N.1
  | x :: y :: r, hk, N =>
   exfalso
   unfold ze at N
   simp only [List.length_cons] at N
   split at N
   ·simp at N; (try omega)
   ·split at N
    ·simp at N; (try omega)
    ·simp at N; (try omega)
 ·cases N
theorem ptree_of {xs : List DPNode} (h : patM xs = true) : ∃ t : PT, xs = Arb.lay PI.node 0 t /\ okP t /\ t.size <= 600 := by
 unfold patM at h
 simp only [Bool.and_eq_true, decide_eq_true_eq] at h
 obtain ⟨⟨⟨h1, h2⟩, h3⟩, h4⟩ := h
 obtain ⟨t, ht⟩ := grow_all (f := PI.node) (ks := fun n : DPNode => n.kids) (inf := DPNode.inf) PI.node_inf h4
 refine ⟨t, ht, ?_, ?_⟩
 ·have := At.zero (f := PI.node) t
  rw [<- ht] at this
  refine all_of t 0 this fun j x l hj => pview_of (fun k hk => ?_) hj
  have := WT.1 h3 ⟨k, hk⟩
  unfold yj at this
  simp only [Bool.and_eq_true] at this
  exact this.1
 ·have := congrArg List.length ht
  rw [Arb.lay_len] at this
  omega
theorem Qs {xs : List DPNode} (h : patM xs = true) : 1 <= xs.length /\ xs.length <= 600 := by
 unfold patM at h
 simp only [Bool.and_eq_true, decide_eq_true_eq] at h
 exact h.1.1
end
end Go.Proofs.YtmnokalddmlogaaGreat
