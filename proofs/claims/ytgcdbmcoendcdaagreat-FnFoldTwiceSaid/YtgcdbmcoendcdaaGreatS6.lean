/- Parts of the proof, laid together: OrB, PaB, PgB, ExB, ParM, HParA. -/
import Derived.BigQuiet
import Derived.Deep.LoopGhost
import Derived.Deep.QuietTactic
import Derived.Deep.RegionLaw
import Derived.Deep.RegionWith
import Derived.Deep.Slices
import Derived.Laws.Cover3
import Derived.Laws.EntriesVeiled
import Derived.Laws.IdiomStrings
import Derived.Laws.StructEq
import Derived.Lib.AppendStr
import Derived.Lib.Hide
import Derived.Lib.SlBytesConst
import Derived.ProofKit
import Derived.Test.YtgcdbmcoendcdaaGreatProg
import Derived.WalkKit
import Derived.Test.YtgcdbmcoendcdaaGreatS5
set_option maxRecDepth 100000
set_option maxHeartbeats 8000000
set_option linter.unusedVariables false
set_option linter.unusedSimpArgs false
namespace Go.Proofs.YtgcdbmcoendcdaaGreat
def yM (f : Nat -> Option Nat) : List Int -> Nat -> Option Nat
 | [], next => some next
 | k :: l, next => if k = (next : Int) then (f next).bind (yM f l) else none
def pEnd (ks : List (List Int)) : Nat -> Nat -> Option Nat
 | 0, _ => none
 | n + 1, at_ => (ks[at_]?).bind fun l => yM (pEnd ks n) l (at_ + 1)
def ym (ks : List (List Int)) (n : Nat) (i : Int) (m : Nat) : Option Nat := if i = (m : Int) then pEnd ks n m else none
def xR (ks : List (List Int)) : Bool := pEnd ks ks.length 0 == some ks.length
theorem uI (ks : List (List Int)) (n : Nat) (k : Int) (l : List Int) (m : Nat) : yM (pEnd ks n) (k :: l) m = (ym ks n k m).bind (yM (pEnd ks n) l) := by
 unfold ym
 rw [yM]
 split <;> rfl
theorem V1 (f : Nat -> Option Nat) (N : Nat) (hf : ∀ m e, f m = some e -> m < e /\ e <= N) : ∀ (l : List Int) (m e : Nat), m <= N -> yM f l m = some e -> m <= e /\ e <= N
 | [], m, e, hm, h => by
  have h' : some m = some e := h
  injection h' with h'; omega
 | k :: l, m, e, hm, h => by
  rw [yM] at h
  split at h
  ·cases hc : f m with
   | none => rw [hc] at h; cases h
   | some e1 =>
    rw [hc] at h
    have := hf m e1 hc
    have := V1 f N hf l e1 e this.2 h
    omega
  ·cases h
theorem XI (ks : List (List Int)) : ∀ (n m e : Nat), pEnd ks n m = some e -> m < e /\ e <= ks.length
 | 0, m, e, h => by cases h
 | n + 1, m, e, h => by
  rw [pEnd] at h
  cases hl : ks[m]? with
  | none => rw [hl] at h; cases h
  | some l =>
   rw [hl] at h
   have hm : m < ks.length := by
    rcases Nat.lt_or_ge m ks.length with q | q
    ·exact q
    ·rw [List.getElem?_eq_none q] at hl; cases hl
   have := V1 (pEnd ks n) ks.length (XI ks n) l (m + 1) e hm h
   omega
theorem Wg {ks : List (List Int)} {n : Nat} {i : Int} {m e : Nat} (h : ym ks n i m = some e) : i = m /\ m < e /\ e <= ks.length := by
 unfold ym at h
 split at h
 ·rename_i hi
  have := XI ks n m e h
  exact ⟨hi, this⟩
 ·cases h
theorem vK (ks : List (List Int)) (n m : Nat) (h : m < ks.length) : pEnd ks (n + 1) m = yM (pEnd ks n) ks[m] (m + 1) := by
 rw [pEnd, List.getElem?_eq_getElem h]; rfl
theorem vW (ks : List (List Int)) (n m : Nat) (h : ks.length <= m) : pEnd ks n m = none := by
 cases n with
 | zero => rfl
 | succ n => rw [pEnd, List.getElem?_eq_none h]; rfl
def endZ (o : Option Nat) : Int := match o with | none => -1 | some e => (e : Int)
theorem ZL (o : Option Nat) (n : Nat) : (endZ o == (n : Int)) = (o == some n) := by
 cases o with
 | none => simp [endZ]
 | some e =>
  simp only [endZ]
  by_cases h : e = n
  ·subst h; simp
  ·have : ¬ (e : Int) = n := by omega
   have a : ((e : Int) == (n : Int)) = false := beq_eq_false_iff_ne.mpr this
   have b : (some e == some n) = false := beq_eq_false_iff_ne.mpr (by simpa using h)
   rw [a, b]
theorem YD {α : Type} (l : List α) (j : Nat) (h : j < l.length) : l.drop j = l[j] :: l.drop (j + 1) := List.drop_eq_getElem_cons h
end Go.Proofs.YtgcdbmcoendcdaaGreat
namespace Go.Proofs.YtgcdbmcoendcdaaGreat
open Go.RowKit
def intR (_ : Hp) (r : List Value) (x : Int) : Prop := r = [.int .i64 x] /\ I64 x
abbrev IntS (h : Hp) (v : Value) (xs : List Int) : Prop := SlOf 1 intR h v xs
theorem IntS.mono {h h' : Hp} {v : Value} {xs : List Int} (q : IntS h v xs) (l : HLe h h') : IntS h' v xs := SlOf.le q l fun _ _ _ q => q
theorem IntS.mem {h : Hp} {v : Value} {xs : List Int} (q : IntS h v xs) : ∀ x ∈ xs, I64 x := by
 obtain ⟨a, c, _, _, _, r⟩ := q
 intro x hx
 rcases r with rfl | ⟨b, off, _, hc⟩
 ·cases hx
 ·obtain ⟨i, hi, rfl⟩ := List.getElem_of_mem hx
  obtain ⟨_, _, _, hr⟩ := hc i hi
  exact hr.2
theorem IntS.cell {h : Hp} {a : Option Addr} {n c : Nat} {xs : List Int} (q : IntS h (.slice a n c) xs) {i : Nat} (hi : i < xs.length) :
  ∃ b off, a = some ⟨b, off, none⟩ /\ ∀ j (hj : j < xs.length), ∀ w : World, Sub h w -> w.cell? ⟨b, off + j, none⟩ = some (.int .i64 xs[j]) := by
 obtain ⟨a', c', e, _, _, r⟩ := q
 injection e with e1 e2 e3
 subst e1
 rcases r with rfl | ⟨b, off, ea, hc⟩
 ·simp at hi
 ·refine ⟨b, off, ea, fun j hj w hw => ?_⟩
  obtain ⟨r, hr1, hr2, hr3⟩ := hc j hj
  rw [hr3.1, Nat.mul_one] at hr2
  exact hr2.cell hw (i := 0) (by simp)
theorem set_selfP {w : World} {b o : Nat} {x : Value} (h : w.cell? ⟨b, o, none⟩ = some x) (y : Value) : (w.setCell ⟨b, o, none⟩ y).cell? ⟨b, o, none⟩ = some y := by
 unfold World.cell? at h
 split at h
 ·rename_i c e fr he
  have hh : (w.setCell ⟨b, o, none⟩ y).heap[b]? = some (.cells (c.setIfInBounds o y) e fr) := by
   simp only [World.setCell, Array.getElem?_modify, if_true, he, Option.map_some]
   rw [if_neg (by simp)]
  unfold World.cell?
  rw [hh]
  simp only at h ⊢
  rw [if_neg (by simp)] at h ⊢
  have hlt : o < c.size := by
   rcases Nat.lt_or_ge o c.size with q | q
   ·exact q
   ·rw [Array.getElem?_eq_none q] at h; cases h
  simp [hlt]
 ·cases h
theorem xaR {w : World} {b o b' o' : Nat} (y : Value) (_ : True) (h : b' ≠ b) : (w.setCell ⟨b, o, none⟩ y).cell? ⟨b', o', none⟩ = w.cell? ⟨b', o', none⟩ := by
 unfold World.cell?
 rw [Below.heap_setCell _ _ _ _ (by exact h)]
theorem beq_someP (a b : Nat) : ((a : Int) == (b : Int)) = (some a == some b) := ZL (some a) b
def KidQ (h : Hp) (w : World) (l : List Int) (e : Ending) (w' : World) : Prop := ∃ v, e = .returned v /\ IntS h v l /\ Below w.heap.size w w'
def WalkQ (R : Option Nat) (w0 : World) (B : Nat) (W : Value) (e : Ending) (w' : World) : Prop :=
 Below w0.heap.size w0 w' /\ ((R = none /\ e = .returned (.bool false)) \/ ∃ e1 : Nat, R = some e1 /\ e = .returned (.bool true) /\ w'.cell? ⟨B, 0, none⟩ = some (.int .i64 e1) /\ w'.frozen? ⟨B, 0, none⟩ = false /\ w'.cell? ⟨B + 1, 0, none⟩ = some W)
def KidR (k c : Nat) (h : Hp) (r : List Value) (l : List Int) : Prop := r.length = k /\ ∃ u, r[c]? = some u /\ IntS h u l
abbrev KidsAt (k c : Nat) (h : Hp) (v : Value) (ks : List (List Int)) : Prop := SlOf k (KidR k c) h v ks
theorem KidsAt.cell {k c : Nat} {h : Hp} {a : Option Addr} {n m : Nat} {ks : List (List Int)} (q : KidsAt k c h (.slice a n m) ks) {i : Nat} (hi : i < ks.length) :
  ∃ b off, a = some ⟨b, off, none⟩ /\ ∀ j (hj : j < ks.length), ∃ v1 : Value, IntS h v1 ks[j] /\ ∀ w : World, Sub h w -> w.cell? ⟨b, off + j * k + c, none⟩ = some v1 := by
 obtain ⟨a', c', e, -, -, h0 | ⟨b, off, ea, hc⟩⟩ := q
 ·subst h0; cases hi
 ·injection e with e1 e2 e3
  refine ⟨b, off, e1.trans ea, fun j hj => ?_⟩
  obtain ⟨r, r1, r2, r4, u, hu, r3⟩ := hc j hj
  obtain ⟨hlt, he⟩ := List.getElem?_eq_some_iff.1 hu
  exact ⟨u, r3, fun w hw => by rw [r2.cell hw (i := c) hlt, he]⟩
theorem node_walk (w0 : World) (ks : List (List Int)) (hl : ks.length <= 1000000000) (hks : ∀ k (h : k < ks.length), ks[k].length <= 1000000000) (K : FuncId) (cap : Value) (hEnt : ∀ vs w, (callFunc K vs).run Tryz.prog w = .ok (.enter K vs) w) (hKid : ∀ w, Below w0.heap.size w0 w -> ∀ m (hm : m < ks.length), Calls Tryz.prog K #[.int .i64 m, cap] w fun e w' => KidQ (hp w0) w ks[m] e w') (Bn Bk : Nat) (hN : w0.cell? ⟨Bn, 0, none⟩ = some (.int .i64 ks.length)) (hK : w0.cell? ⟨Bk, 0, none⟩ = some (.func (.func K) #[] #[cap]))
  :
  ∀ (n : Nat) (w : World) (i : Int) (m : Nat) (hi : I64 i) (hb : Below w0.heap.size w0 w) (hn : ks.length - m <= n) (c0 : w.cell? ⟨w0.heap.size, 0, none⟩ = some (.int .i64 m)) (f0 : w.frozen? ⟨w0.heap.size, 0, none⟩ = false) (c1 : w.cell? ⟨w0.heap.size + 1, 0, none⟩ = some (.func (.func 176) #[] #[.pointer (some ⟨w0.heap.size, 0, none⟩), .pointer (some ⟨Bn, 0, none⟩), .pointer (some ⟨Bk, 0, none⟩), .pointer (some ⟨w0.heap.size + 1, 0, none⟩)])),
  Calls Tryz.prog 176 #[.int .i64 i, .pointer (some ⟨w0.heap.size, 0, none⟩), .pointer (some ⟨Bn, 0, none⟩), .pointer (some ⟨Bk, 0, none⟩), .pointer (some ⟨w0.heap.size + 1, 0, none⟩)] w fun e w' => WalkQ (ym ks n i m) w0 w0.heap.size (.func (.func 176) #[] #[.pointer (some ⟨w0.heap.size, 0, none⟩), .pointer (some ⟨Bn, 0, none⟩), .pointer (some ⟨Bk, 0, none⟩), .pointer (some ⟨w0.heap.size + 1, 0, none⟩)]) e w' := by
 have HKID := Lib.hid hKid
 have hBk : Bk < w0.heap.size := World.block_lt_of_cell? _ _ hK
 have hBn : Bn < w0.heap.size := World.block_lt_of_cell? _ _ hN
 clear hKid
 have out : ∀ (n : Nat) (w : World) (i : Int) (m : Nat) (hi : I64 i) (hb : Below w0.heap.size w0 w) (c0 : w.cell? ⟨w0.heap.size, 0, none⟩ = some (.int .i64 m)) (hbad : ¬ (i = (m : Int) /\ m < ks.length)),
   Calls Tryz.prog 176 #[.int .i64 i, .pointer (some ⟨w0.heap.size, 0, none⟩), .pointer (some ⟨Bn, 0, none⟩), .pointer (some ⟨Bk, 0, none⟩), .pointer (some ⟨w0.heap.size + 1, 0, none⟩)] w fun e w' => WalkQ (ym ks n i m) w0 w0.heap.size (.func (.func 176) #[] #[.pointer (some ⟨w0.heap.size, 0, none⟩), .pointer (some ⟨Bn, 0, none⟩), .pointer (some ⟨Bk, 0, none⟩), .pointer (some ⟨w0.heap.size + 1, 0, none⟩)]) e w' := by
  intro n w i m hi hb c0 hbad
  unfold I64 at hi
  have kN := we hb hN
  have HR : ym ks n i m = none := by
   unfold ym
   split
   ·rename_i e
    exact vW _ _ _ (by rcases Nat.lt_or_ge m ks.length with q | q; exact absurd ⟨e, q⟩ hbad; exact q)
   ·rfl
  rw [HR]
  clear HR
  by_cases him : i = m
  ·subst him
   have hge : ¬ m < ks.length := fun q => hbad ⟨rfl, q⟩
   clear hbad
   go_enter Tryz.func176, Tryz.ntmps176
   go_wp2_with fail
   go_ret
   exact ⟨hb, .inl ⟨rfl, rfl⟩⟩
  ·clear hbad
   go_enter Tryz.func176, Tryz.ntmps176
   go_wp2_with fail
   go_ret
   exact ⟨hb, .inl ⟨rfl, rfl⟩⟩
 have OUT := Lib.hid out
 clear out
 intro n
 induction n with
 | zero =>
  intro w i m hi hb hn c0 f0 c1
  exact OUT.out 0 w i m hi hb c0 (by omega)
 | succ n ih =>
  intro w i m hi hb hn c0 f0 c1
  by_cases hin : i = (m : Int) /\ m < ks.length
  ·obtain ⟨him, hlt⟩ := hin
   subst him
   have kN := we hb hN
   have kK := we hb hK
   have IH := Lib.hid ih
   have HR : ym ks (n + 1) m m = yM (pEnd ks n) ks[m] (m + 1) := by
    unfold ym
    rw [if_pos rfl, vK _ _ _ hlt]
   obtain ⟨R, hR⟩ : ∃ R, ym ks (n + 1) m m = R := ⟨_, rfl⟩
   rw [hR]
   rw [hR] at HR
   have HRR := Lib.hid HR
   clear hR HR ih
   have hb1 := hb.setCell (p := ⟨w0.heap.size, 0, none⟩) (Nat.le_refl _) (.int .i64 ((m : Int) + 1))
   have KK := Lib.hid (HKID.out _ hb1 m hlt)
   have HB1 := Lib.hid hb1
   have hx : w0.heap.size < w.heap.size := World.block_lt_of_cell? _ _ c0
   have hxx : w0.heap.size + 1 < w.heap.size := World.block_lt_of_cell? _ _ c1
   clear hb1
   go_enter Tryz.func176, Tryz.ntmps176
   go_wp2_with fail
   refine KK.out.mono ?_
   rintro e w1 ⟨v1, rfl, hv1, hb2⟩
   have d0 : w1.cell? ⟨w0.heap.size, 0, none⟩ = some (.int .i64 ((m + 1 : Nat) : Int)) := by
    rw [(bcell hb2).1 _ _ (by simp <;> omega)]; exact set_selfP c0 _
   have d1 : w1.frozen? ⟨w0.heap.size, 0, none⟩ = false := by
    rw [(bcell hb2).2 _ _ (by simp <;> omega)]; exact (World.frozen?_setCell _ _ _ _).trans f0
   have d2 : w1.cell? ⟨w0.heap.size + 1, 0, none⟩ = some (.func (.func 176) #[] #[.pointer (some ⟨w0.heap.size, 0, none⟩), .pointer (some ⟨Bn, 0, none⟩), .pointer (some ⟨Bk, 0, none⟩), .pointer (some ⟨w0.heap.size + 1, 0, none⟩)]) := by
    rw [(bcell hb2).1 _ _ (by simp <;> omega)]; exact (xaR _ trivial (by omega)).trans c1
   have hb3 := uZ hb2 HB1.out HB1.out.size
   clear c0 f0 c1 kN kK
   have HV1 := Lib.hid hv1
   have hm1 := Lib.hid hv1.mem
   obtain ⟨a, c, rfl, hc1, hc2, -⟩ := hv1
   unfold maxLen at hc2
   have hll : ks[m].length <= 1000000000 := hks m hlt
   have HB3 := Lib.hid hb3
   have D0 := Lib.hid d0
   have D1 := Lib.hid d1
   have D2 := Lib.hid d2
   clear hb3 d0 d1 d2
   go_wp2_with fail
   go_loopw [8, 23] (fun q i wr => ∃ (j cur : Nat), j <= ks[m].length /\ i = .int .i64 j /\ m < cur /\ yM (pEnd ks n) (ks[m].drop j) cur = R /\ wr.cell? ⟨w0.heap.size, 0, none⟩ = some (.int .i64 cur) /\ wr.frozen? ⟨w0.heap.size, 0, none⟩ = false /\ wr.cell? ⟨w0.heap.size + 1, 0, none⟩ = some (.func (.func 176) #[] #[.pointer (some ⟨w0.heap.size, 0, none⟩), .pointer (some ⟨Bn, 0, none⟩), .pointer (some ⟨Bk, 0, none⟩), .pointer (some ⟨w0.heap.size + 1, 0, none⟩)]) /\ Below w0.heap.size w0 wr) (fun _ i _ => ks[m].length - (intOf i).toNat)
   case atStart => exact ⟨0, m + 1, by omega, rfl, by omega, by rw [HRR.out]; rfl, D0.out, D1.out, D2.out, HB3.out⟩
   case round =>
    obtain ⟨j, cur, hj, rfl, hcur, hp, g0, g1, g2, hbel⟩ := hrel
    have HP := Lib.hid hp
    clear hp
    by_cases hjl : j < ks[m].length
    ·obtain ⟨b, off, rfl, hcell⟩ := HV1.out.cell hjl
     have hc := hcell j hjl wr ((Sub.self w0).below hbel)
     have hki := Lib.hid (hm1.out _ (List.getElem_mem hjl))
     have KI := Lib.hid (IH.out wr ks[m][j] cur hki.out hbel (by omega) g0 g1 g2)
     have HQ : (ym ks n ks[m][j] cur).bind (yM (pEnd ks n) (ks[m].drop (j + 1))) = R := by
      rw [<- HP.out, YD _ j hjl, uI]
     have HQQ := Lib.hid HQ
     clear HQ hcell g0 g1
     go_wp2_with fail
     refine KI.out.mono ?_
     rintro e w2 ⟨hb4, (⟨hn1, rfl⟩ | ⟨e1, hs1, rfl, g0', g1', g2'⟩)⟩
     ·have HE : R = none := by rw [<- HQQ.out, hn1]; rfl
      have HEE := Lib.hid HE
      clear HE hn1
      go_wp2_with fail
      go_ret
      exact ⟨hb4, .inl ⟨HEE.out, rfl⟩⟩
     ·have hgt := Wg hs1
      have HE : yM (pEnd ks n) (ks[m].drop (j + 1)) e1 = R := by rw [<- HQQ.out, hs1]; rfl
      have HEE := Lib.hid HE
      have G0 := Lib.hid g0'
      have G1 := Lib.hid g1'
      have G2 := Lib.hid g2'
      clear HE hs1 g0' g1' g2'
      go_wp2_with fail
      refine ⟨⟨j + 1, e1, by omega, by go_num, by omega, HEE.out, G0.out, G1.out, G2.out, hb4⟩, ?_⟩
      simp [intOf]; omega
    ·have HE : R = some cur := by
      rw [<- HP.out, List.drop_eq_nil_of_le (by omega)]; rfl
     have HEE := Lib.hid HE
     have G0 := Lib.hid g0
     have G1 := Lib.hid g1
     have G2 := Lib.hid g2
     clear HE g0 g1 g2
     go_wp2_with fail
     go_ret
     exact ⟨hbel, .inr ⟨cur, HEE.out, rfl, G0.out, G1.out, G2.out⟩⟩
  ·exact OUT.out (n + 1) w i m hi hb c0 hin
theorem VW (w : World) (ks : List (List Int)) (hl : ks.length <= 1000000000) (hks : ∀ k (h : k < ks.length), ks[k].length <= 1000000000) (K : FuncId) (cap : Value) (hEnt : ∀ vs w, (callFunc K vs).run Tryz.prog w = .ok (.enter K vs) w) (hKid : ∀ w1, Below w.heap.size w w1 -> ∀ m (hm : m < ks.length), Calls Tryz.prog K #[.int .i64 m, cap] w1 fun e w' => KidQ (hp w) w1 ks[m] e w') :
  Calls Tryz.prog 95 #[.int .i64 ks.length, .func (.func K) #[] #[cap]] w fun e w' => e = .returned (.bool (xR ks)) /\ Below w.heap.size w w' := by
 obtain ⟨w0, hw0⟩ : ∃ w0, w0 = (w.alloc (.cells #[.int .i64 ks.length] 3)).alloc (.cells #[.func (.func K) #[] #[cap]] 148) := ⟨_, rfl⟩
 have b0 : Below w.heap.size w w0 := by rw [hw0]; exact (by repeat (first | with_reducible exact Below.refl _ _ | with_reducible assumption | with_reducible refine Below.setCell ?_ ?_ _ | with_reducible refine Below.alloc ?_ ?_ _ | with_reducible refine Below.drew ?_ | (with_reducible apply uZ; with_reducible assumption) | exact Nat.le_refl _ | omega | (simp <;> omega)))
 have z0 : w0.heap.size = w.heap.size + 1 + 1 := by rw [hw0]; simp
 have n0 : w0.cell? ⟨w.heap.size, 0, none⟩ = some (.int .i64 ks.length) := by rw [hw0]; exact we ((Below.refl _ _).alloc (Nat.le_refl _) _) (vh _ _ _)
 have n1 : w0.cell? ⟨w.heap.size + 1, 0, none⟩ = some (.func (.func K) #[] #[cap]) := by
  have q := vh (w.alloc (.cells #[.int .i64 ks.length] 3)) (.func (.func K) #[] #[cap]) 148
  rw [hw0]
  rwa [show (w.alloc (.cells #[.int .i64 ks.length] 3)).heap.size = w.heap.size + 1 by simp] at q
 have q0 : (w0.alloc (.cells #[.int .i64 0] 3)).heap.size = w0.heap.size + 1 := by simp
 have m0 := we ((Below.refl (w0.alloc (.cells #[.int .i64 0] 3)).heap.size _).alloc (Nat.le_refl _) (.cells #[.func (.func 176) #[] #[.pointer (some ⟨w0.heap.size, 0, none⟩), .pointer (some ⟨w.heap.size, 0, none⟩), .pointer (some ⟨w.heap.size + 1, 0, none⟩), .pointer (some ⟨w0.heap.size + 1, 0, none⟩)]] 108)) (vh w0 (.int .i64 0) 3)
 have m1 := vh (w0.alloc (.cells #[.int .i64 0] 3)) (.func (.func 176) #[] #[.pointer (some ⟨w0.heap.size, 0, none⟩), .pointer (some ⟨w.heap.size, 0, none⟩), .pointer (some ⟨w.heap.size + 1, 0, none⟩), .pointer (some ⟨w0.heap.size + 1, 0, none⟩)]) 108
 rw [q0] at m1
 have KW := node_walk w0 ks hl hks K cap hEnt (fun w1 hb1 m hm => (hKid w1 (b0.trans (hb1.mono b0.size)) m hm).mono fun e w2 ⟨u, e1, h1, h2⟩ => ⟨u, e1, h1.mono ((Sub.self w).below b0).hle, h2⟩) w.heap.size (w.heap.size + 1) n0 n1 ks.length ((w0.alloc (.cells #[.int .i64 0] 3)).alloc (.cells #[.func (.func 176) #[] #[.pointer (some ⟨w0.heap.size, 0, none⟩), .pointer (some ⟨w.heap.size, 0, none⟩), .pointer (some ⟨w.heap.size + 1, 0, none⟩), .pointer (some ⟨w0.heap.size + 1, 0, none⟩)]] 108)) 0 0 (by unfold I64; omega) (((Below.refl _ _).alloc (Nat.le_refl _) _).alloc (by simp) _) (by omega) m0 ((frozen?_alloc_cells _ _ _ _).trans ((frozen?_alloc_cells _ _ _ _).trans (by unfold World.frozen?; rw [Array.getElem?_eq_none (Nat.le_refl _)]))) m1
 have hR : ym ks ks.length 0 0 = pEnd ks ks.length 0 := by unfold ym; rw [if_pos (by rfl)]
 rw [hR] at KW
 obtain ⟨R, hR2⟩ : ∃ R, pEnd ks ks.length 0 = R := ⟨_, rfl⟩
 have hM : xR ks = (R == some ks.length) := by
  rw [<- hR2]
  unfold xR
  rfl
 rw [hM]
 rw [hR2] at KW
 rw [hw0] at KW b0 n0
 have N0 := Lib.hid n0
 have hBN : w.heap.size < w.heap.size + 1 + 1 := by omega
 rw [show ((w.alloc (.cells #[.int .i64 ks.length] 3)).alloc (.cells #[.func (.func K) #[] #[cap]] 148)).heap.size = w.heap.size + 1 + 1 by simp] at KW
 have HK := Lib.hid KW
 have HB0 := Lib.hid b0
 clear KW m0 m1 q0 n0 n1 z0 b0 hM hR hR2 hKid hks
 clear hw0
 clear w0
 go_enter Tryz.func95, Tryz.ntmps95
 go_wp2_with fail
 refine HK.out.mono ?_
 rintro e w1 ⟨hb1, (⟨hn1, rfl⟩ | ⟨e1, hs1, rfl, g0, g1, g2⟩)⟩
 ·have HN := Lib.hid hn1
  clear hn1
  go_wp2_with fail
  go_ret
  exact ⟨yw (by rw [HN.out]; rfl), HB0.out.trans (hb1.mono (by simp <;> omega))⟩
 ·have HN := Lib.hid hs1
  clear hs1
  have g3 := (hb1.cell (p := ⟨w.heap.size, 0, none⟩) (by simp <;> omega)).trans N0.out
  go_wp2_with fail
  go_ret
  exact ⟨yw (by rw [HN.out]; exact beq_someP e1 ks.length), HB0.out.trans (hb1.mono (by simp <;> omega))⟩
end Go.Proofs.YtgcdbmcoendcdaaGreat
namespace Go.Proofs.YtgcdbmcoendcdaaGreat
inductive Arb (α : Type) where
 | mk (a : α) (kids : List (Arb α))
namespace Arb
variable {α N : Type}
def a : Arb α -> α | .mk a _ => a
def kids : Arb α -> List (Arb α) | .mk _ k => k
theorem eta (t : Arb α) : t = .mk t.a t.kids := by cases t; rfl
mutual
def size : Arb α -> Nat | .mk _ l => 1 + sizeL l
def sizeL : List (Arb α) -> Nat | [] => 0 | t :: l => size t + sizeL l
end
def idxs : Nat -> List (Arb α) -> List Int
 | _, [] => []
 | b, t :: l => (b : Int) :: idxs (b + t.size) l
mutual
def lay (f : α -> List Int -> N) : Nat -> Arb α -> List N
 | b, .mk a l => f a (idxs (b + 1) l) :: layL f (b + 1) l
def layL (f : α -> List Int -> N) : Nat -> List (Arb α) -> List N
 | _, [] => []
 | b, t :: l => lay f b t ++ layL f (b + t.size) l
end
theorem ind {P : Arb α -> Prop} (h : ∀ a l, (∀ x ∈ l, P x) -> P (.mk a l)) : ∀ t, P t := fun t =>
 Arb.rec (motive_1 := P) (motive_2 := fun l => ∀ x ∈ l, P x) (fun a l ih => h a l ih) (by simp) (fun t l h1 h2 => by simpa using ⟨h1, h2⟩) t
theorem size_mk (x : α) (l : List (Arb α)) : (Arb.mk x l).size = 1 + sizeL l := rfl
theorem sizeL_nil : sizeL ([] : List (Arb α)) = 0 := rfl
theorem sizeL_cons (t : Arb α) (l : List (Arb α)) : sizeL (t :: l) = t.size + sizeL l := rfl
theorem size_pos (t : Arb α) : 0 < t.size := by cases t; rw [size_mk]; omega
theorem sizeL_app (l m : List (Arb α)) : sizeL (l ++ m) = sizeL l + sizeL m := by
 induction l with
 | nil => simp [sizeL_nil]
 | cons t l ih => rw [List.cons_append, sizeL_cons, sizeL_cons, ih]; omega
theorem sizeL_len (l : List (Arb α)) : l.length <= sizeL l := by
 induction l with
 | nil => exact Nat.le_refl _
 | cons t l ih => have := size_pos t; rw [sizeL_cons, List.length_cons]; omega
theorem size_mem {x : Arb α} {l : List (Arb α)} (h : x ∈ l) : x.size <= sizeL l := by
 induction l with
 | nil => cases h
 | cons t l ih =>
  rw [sizeL_cons]
  rcases List.mem_cons.1 h with rfl | h
  ·omega
  ·have := ih h; omega
theorem size_lt {x : Arb α} {a : α} {l : List (Arb α)} (h : x ∈ l) : x.size < (Arb.mk a l).size := by have := size_mem h; rw [size_mk]; omega
theorem idxs_len (b : Nat) (l : List (Arb α)) : (idxs b l).length = l.length := by
 induction l generalizing b with
 | nil => rfl
 | cons t l ih => rw [idxs, List.length_cons, List.length_cons, ih]
theorem idxs_at (b : Nat) (l : List (Arb α)) (i : Nat) (h : i < l.length) : (idxs b l)[i]'(by rw [idxs_len]; exact h) = ((b + sizeL (l.take i) : Nat) : Int) := by
 induction l generalizing b i with
 | nil => simp at h
 | cons t l ih =>
  cases i with
  | zero => simp [idxs, sizeL_nil]
  | succ i =>
   have := ih (b + t.size) i (by simpa using h)
   simp only [idxs, List.getElem_cons_succ, List.take_succ_cons, sizeL_cons]
   rw [this]; congr 1; omega
theorem idxs_app (b : Nat) (l m : List (Arb α)) : idxs b (l ++ m) = idxs b l ++ idxs (b + sizeL l) m := by
 induction l generalizing b with
 | nil => simp [idxs, sizeL_nil]
 | cons t l ih => rw [List.cons_append, idxs, idxs, ih, sizeL_cons, List.cons_append, Nat.add_assoc]
variable {f : α -> List Int -> N}
theorem lay_mk (b : Nat) (x : α) (l : List (Arb α)) : lay f b (.mk x l) = f x (idxs (b + 1) l) :: layL f (b + 1) l := rfl
theorem layL_nil (b : Nat) : layL f b [] = [] := rfl
theorem layL_cons (b : Nat) (t : Arb α) (l : List (Arb α)) : layL f b (t :: l) = lay f b t ++ layL f (b + t.size) l := rfl
theorem layL_app (b : Nat) (l m : List (Arb α)) : layL f b (l ++ m) = layL f b l ++ layL f (b + sizeL l) m := by
 induction l generalizing b with
 | nil => simp [layL_nil, sizeL_nil]
 | cons t l ih => rw [List.cons_append, layL_cons, layL_cons, ih, sizeL_cons, List.append_assoc, Nat.add_assoc]
theorem layL_len_of {l : List (Arb α)} (h : ∀ x ∈ l, ∀ b, (lay f b x).length = x.size) (b : Nat) : (layL f b l).length = sizeL l := by
 induction l generalizing b with
 | nil => rfl
 | cons t l ih => rw [layL_cons, List.length_append, sizeL_cons, h t (by simp), ih (fun x hx => h x (by simp [hx]))]
theorem lay_len : ∀ (t : Arb α) (b : Nat), (lay f b t).length = t.size := fun t => by
 induction t using ind with
 | h a l ih => intro b; rw [lay_mk, List.length_cons, layL_len_of ih, size_mk]; omega
theorem layL_len (b : Nat) (l : List (Arb α)) : (layL f b l).length = sizeL l := layL_len_of (fun x _ b => lay_len x b) b
def At (f : α -> List Int -> N) (xs : List N) (m : Nat) (t : Arb α) : Prop := ∃ post, xs.drop m = lay f m t ++ post
def AtL (f : α -> List Int -> N) (xs : List N) (m : Nat) (l : List (Arb α)) : Prop := ∃ post, xs.drop m = layL f m l ++ post
theorem At.bd {xs : List N} {m : Nat} {t : Arb α} (h : At f xs m t) : m + t.size <= xs.length := by
 obtain ⟨p, h⟩ := h
 have := congrArg List.length h
 rw [List.length_drop, List.length_append, lay_len] at this
 have := size_pos t
 omega
theorem At.root {xs : List N} {m : Nat} {x : α} {l : List (Arb α)} (h : At f xs m (.mk x l)) : xs[m]? = some (f x (idxs (m + 1) l)) := by
 obtain ⟨p, h⟩ := h
 rw [lay_mk, List.cons_append] at h
 have : (xs.drop m)[0]? = some (f x (idxs (m + 1) l)) := by rw [h]; rfl
 rw [List.getElem?_drop, Nat.add_zero] at this
 exact this
theorem At.lt {xs : List N} {m : Nat} {t : Arb α} (h : At f xs m t) : m < xs.length := by
 have := h.bd; have := size_pos t; omega
theorem At.kids {xs : List N} {m : Nat} {x : α} {l : List (Arb α)} (h : At f xs m (.mk x l)) : AtL f xs (m + 1) l := by
 obtain ⟨p, h⟩ := h
 rw [lay_mk, List.cons_append] at h
 refine ⟨p, ?_⟩
 have := congrArg (List.drop 1) h
 rw [List.drop_drop, List.drop_succ_cons, List.drop_zero] at this
 exact this
theorem AtL.head {xs : List N} {m : Nat} {t : Arb α} {l : List (Arb α)} (h : AtL f xs m (t :: l)) : At f xs m t := by
 obtain ⟨p, h⟩ := h
 rw [layL_cons, List.append_assoc] at h
 exact ⟨_, h⟩
theorem AtL.tail {xs : List N} {m : Nat} {t : Arb α} {l : List (Arb α)} (h : AtL f xs m (t :: l)) : AtL f xs (m + t.size) l := by
 obtain ⟨p, h⟩ := h
 rw [layL_cons, List.append_assoc] at h
 refine ⟨p, ?_⟩
 have := congrArg (List.drop t.size) h
 rw [List.drop_drop, <- lay_len (f := f) t m, List.drop_left] at this
 rw [lay_len] at this
 exact this
theorem AtL.at {xs : List N} : ∀ {l : List (Arb α)} {m : Nat} (i : Nat) (hi : i < l.length), AtL f xs m l -> At f xs (m + sizeL (l.take i)) l[i]
 | t :: l, m, 0, hi, h => by simpa [sizeL_nil] using h.head
 | t :: l, m, i + 1, hi, h => by
  have := AtL.at i (by simpa using hi) h.tail
  simpa [sizeL_cons, Nat.add_assoc] using this
theorem At.zero (t : Arb α) : At f (lay f 0 t) 0 t := ⟨[], by simp⟩
theorem At.whole {xs : List N} {t : Arb α} (h : At f xs 0 t) (hl : t.size = xs.length) : xs = lay f 0 t := by
 obtain ⟨p, h⟩ := h
 rw [List.drop_zero] at h
 have h2 := congrArg List.length h
 rw [List.length_append, lay_len] at h2
 have : p = [] := List.eq_nil_of_length_eq_zero (by omega)
 rw [h, this, List.append_nil]
variable {ks : N -> List Int} {inf : N -> α}
theorem grow_ex (hf : ∀ x, f (inf x) (ks x) = x) (xs : List N) : ∀ (n m e : Nat), pEnd (xs.map ks) n m = some e -> ∃ t : Arb α, t.size = e - m /\ At f xs m t
 | 0, m, e, h => by cases h
 | n + 1, m, e, h => by
  have hm : m < xs.length := by
   rcases Nat.lt_or_ge m xs.length with q | q
   ·exact q
   ·rw [vW _ _ _ (by simpa using q)] at h; cases h
  rw [vK _ _ _ (by simpa using hm), List.getElem_map] at h
  have key : ∀ (l : List Int) (m e : Nat), m <= xs.length -> yM (pEnd (xs.map ks) n) l m = some e -> ∃ ts : List (Arb α), sizeL ts = e - m /\ AtL f xs m ts /\ idxs m ts = l /\ m <= e /\ e <= xs.length := by
   intro l
   induction l with
   | nil =>
    intro m e hm h
    have h' : some m = some e := h
    injection h' with h'
    subst h'
    exact ⟨[], by simp [sizeL_nil], ⟨xs.drop m, by simp [layL_nil]⟩, rfl, Nat.le_refl _, hm⟩
   | cons k l ih =>
    intro m e hm h
    rw [yM] at h
    split at h
    ·rename_i hk
     cases hc : pEnd (xs.map ks) n m with
     | none => rw [hc] at h; cases h
     | some e1 =>
      rw [hc] at h
      have hb := XI _ _ _ _ hc
      rw [List.length_map] at hb
      obtain ⟨t, h1, h2⟩ := grow_ex hf xs n m e1 hc
      obtain ⟨ts, h3, h4, h5, h6, h7⟩ := ih e1 e hb.2 h
      have he : e1 = m + t.size := by omega
      refine ⟨t :: ts, by rw [sizeL_cons]; omega, ?_, by rw [idxs, hk, <- he, h5], by omega, h7⟩
      obtain ⟨p1, q1⟩ := h2
      obtain ⟨p2, q2⟩ := h4
      refine ⟨p2, ?_⟩
      have := congrArg (List.drop t.size) q1
      rw [List.drop_drop, <- he, <- lay_len (f := f) t m, List.drop_left, q2] at this
      rw [layL_cons, List.append_assoc, <- he, this, q1]
    ·cases h
  obtain ⟨ts, h3, h4, h5, h6, h7⟩ := key _ (m + 1) e (by omega) h
  refine ⟨.mk (inf xs[m]) ts, by rw [size_mk]; omega, ?_⟩
  obtain ⟨p, q⟩ := h4
  refine ⟨p, ?_⟩
  rw [lay_mk, List.drop_eq_getElem_cons hm, q, h5, hf]; rfl
theorem grow_all (hf : ∀ x, f (inf x) (ks x) = x) {xs : List N} (h : xR (xs.map ks) = true) : ∃ t : Arb α, xs = lay f 0 t := by
 unfold xR at h
 have he : pEnd (xs.map ks) (xs.map ks).length 0 = some (xs.map ks).length := by simpa using h
 obtain ⟨t, h1, h2⟩ := grow_ex hf xs _ _ _ he
 exact ⟨t, h2.whole (by rw [List.length_map] at h1; omega)⟩
theorem pEnd_lay (hk : ∀ x l, ks (f x l) = l) {xs : List N} : ∀ (t : Arb α) (m n : Nat), At f xs m t -> t.size <= n -> pEnd (xs.map ks) n m = some (m + t.size) := fun t => by
 induction t using ind with
 | h a l ih =>
  intro m n h hn
  rw [size_mk] at hn
  obtain ⟨n, rfl⟩ : ∃ q, n = q + 1 := ⟨n - 1, by omega⟩
  have hr := h.root
  obtain ⟨hm, hr⟩ := List.getElem?_eq_some_iff.1 hr
  rw [vK _ _ _ (by simpa using hm), List.getElem_map, hr, hk]
  have key : ∀ (l : List (Arb α)), (∀ x ∈ l, ∀ (m n : Nat), At f xs m x -> x.size <= n -> pEnd (xs.map ks) n m = some (m + x.size)) -> ∀ m, AtL f xs m l -> sizeL l <= n -> yM (pEnd (xs.map ks) n) (idxs m l) m = some (m + sizeL l) := by
   intro l
   induction l with
   | nil => intro _ m _ _; rfl
   | cons t l il =>
    intro ih m h hn
    rw [sizeL_cons] at hn
    rw [idxs, yM, if_pos rfl, ih t (by simp) m n h.head (by omega), Option.bind_some, il (fun x hx => ih x (by simp [hx])) _ h.tail (by omega), sizeL_cons, Nat.add_assoc]
  rw [key l ih (m + 1) h.kids (by omega), size_mk]
  congr 1; omega
theorem order_lay (hk : ∀ x l, ks (f x l) = l) (t : Arb α) : xR ((lay f 0 t).map ks) = true := by
 unfold xR
 rw [pEnd_lay hk t 0 _ (At.zero t) (by rw [List.length_map, lay_len]; exact Nat.le_refl _), List.length_map, lay_len, Nat.zero_add]
 simp
inductive All (P : α -> List (Arb α) -> Prop) : Arb α -> Prop where
 | mk {x : α} {l : List (Arb α)} : P x l -> (∀ t ∈ l, All P t) -> All P (.mk x l)
theorem All.root {P : α -> List (Arb α) -> Prop} {x : α} {l : List (Arb α)} (h : All P (.mk x l)) : P x l := by cases h; assumption
theorem All.kid {P : α -> List (Arb α) -> Prop} {x : α} {l : List (Arb α)} (h : All P (.mk x l)) : ∀ t ∈ l, All P t := by cases h; assumption
theorem all_of {P : α -> List (Arb α) -> Prop} {xs : List N} : ∀ (t : Arb α) (m : Nat), At f xs m t -> (∀ (j : Nat) (x : α) (l : List (Arb α)), At f xs j (.mk x l) -> P x l) -> All P t := fun t => by
 induction t using ind with
 | h a l ih =>
  intro m h hp
  refine .mk (hp m a l h) fun t ht => ?_
  obtain ⟨i, hi, rfl⟩ := List.getElem_of_mem ht
  exact ih _ ht _ (h.kids.at i hi) hp
theorem at_of {P : α -> List (Arb α) -> Prop} {xs : List N} : ∀ (t : Arb α) (m : Nat), At f xs m t -> All P t -> ∀ j, m <= j -> j < m + t.size -> ∃ x l, At f xs j (.mk x l) /\ All P (.mk x l) := fun t => by
 induction t using ind with
 | h a l ih =>
  intro m h hp j h1 h2
  rcases Nat.eq_or_lt_of_le h1 with rfl | h1
  ·exact ⟨a, l, h, hp⟩
  ·rw [size_mk] at h2
   have key : ∀ (l : List (Arb α)), (∀ x ∈ l, ∀ (m : Nat), At f xs m x -> All P x -> ∀ j, m <= j -> j < m + x.size -> ∃ x l, At f xs j (.mk x l) /\ All P (.mk x l)) -> ∀ m, AtL f xs m l -> (∀ t ∈ l, All P t) -> m <= j -> j < m + sizeL l -> ∃ x l, At f xs j (.mk x l) /\ All P (.mk x l) := by
    intro l
    induction l with
    | nil => intro _ m _ _ h1 h2; rw [sizeL_nil] at h2; omega
    | cons t l il =>
     intro ih m h hp h1 h2
     rw [sizeL_cons] at h2
     by_cases hj : j < m + t.size
     ·exact ih t (by simp) m h.head (hp t (by simp)) j h1 hj
     ·exact il (fun x hx => ih x (by simp [hx])) _ h.tail (fun x hx => hp x (by simp [hx])) (by omega) (by omega)
   exact key l ih (m + 1) h.kids hp.kid (by omega) (by omega)
end Arb
end Go.Proofs.YtgcdbmcoendcdaaGreat
namespace Go.Proofs.YtgcdbmcoendcdaaGreat
attribute [local go_sem] List.length_set List.set_set
open Go.RowKit Go.ChangeShapes Go.WideShapes
structure DPNode where
 kind : Int
 n : Int
 s : ByteArray
 kids : List Int
def DPNode.enc (x : DPNode) : List D := [.s (.int .i64 x.kind), .s (.int .i64 x.n), .s (.string x.s), .sl 1 (x.kids.map iE)]
theorem DPNode.enc_eq (x : DPNode) : x.enc = [.s (.int .i64 x.kind), .s (.int .i64 x.n), .s (.string x.s), .sl 1 (x.kids.map iE)] := rfl
def DPNode.own (x : DPNode) : List D := [.s (.int .i64 x.kind), .s (.int .i64 x.n), .s (.string x.s), .osl 3 1 (x.kids.map iE)]
theorem DPNode.own_eq (x : DPNode) : x.own = [.s (.int .i64 x.kind), .s (.int .i64 x.n), .s (.string x.s), .osl 3 1 (x.kids.map iE)] := rfl
theorem DPNode.frz_eq (x : DPNode) : frzL x.own = x.enc := by
 simp only [DPNode.own_eq, DPNode.enc_eq, frzL, frz, ye WP]
def DPNode.ok (x : DPNode) : Prop := I64 x.kind /\ I64 x.n /\ x.s.size <= maxLen /\ (∀ y ∈ x.kids, I64 y)
def DPNode.sm (x : DPNode) : Prop := x.s.size <= 1048576 /\ smS (fun _ : Int => True) x.kids
theorem DPNode.pure (x : DPNode) : ∀ d ∈ x.own, Pure d := by
 simp only [DPNode.own_eq, List.forall_mem_cons, List.not_mem_nil, false_imp_iff, implies_true, and_true]
 exact ⟨.s _, .s _, .s _, yr Ub _ _ _⟩
theorem DPNode.pureS (e k : Nat) (xs : List DPNode) : Pure (.osl e k (xs.map DPNode.own)) = True := eq_true (yr DPNode.pure e k xs)
attribute [go_sem] DPNode.pureS
end Go.Proofs.YtgcdbmcoendcdaaGreat
namespace Go.Proofs.YtgcdbmcoendcdaaGreat
attribute [local go_sem] List.length_set List.set_set
open Go.RowKit Go.ChangeShapes Go.WideShapes
structure MPat where
 nodes : List DPNode
def MPat.enc (x : MPat) : List D := [.sl 4 (x.nodes.map DPNode.enc)]
theorem MPat.enc_eq (x : MPat) : x.enc = [.sl 4 (x.nodes.map DPNode.enc)] := rfl
def MPat.own (x : MPat) : List D := [.osl 126 4 (x.nodes.map DPNode.own)]
theorem MPat.own_eq (x : MPat) : x.own = [.osl 126 4 (x.nodes.map DPNode.own)] := rfl
theorem MPat.frz_eq (x : MPat) : frzL x.own = x.enc := by
 simp only [MPat.own_eq, MPat.enc_eq, frzL, frz, ye DPNode.frz_eq]
def MPat.ok (x : MPat) : Prop := (∀ y ∈ x.nodes, y.ok)
def MPat.sm (x : MPat) : Prop := smS DPNode.sm x.nodes
theorem MPat.pure (x : MPat) : ∀ d ∈ x.own, Pure d := by
 simp only [MPat.own_eq, List.forall_mem_cons, List.not_mem_nil, false_imp_iff, implies_true, and_true]
 exact yr DPNode.pure _ _ _
theorem MPat.pureS (e k : Nat) (xs : List MPat) : Pure (.osl e k (xs.map MPat.own)) = True := eq_true (yr MPat.pure e k xs)
attribute [go_sem] MPat.pureS
theorem MPat.frzS (xs : List MPat) : xJ (xs.map MPat.own) = xs.map MPat.enc := ye MPat.frz_eq xs
attribute [go_sem] MPat.frzS
end Go.Proofs.YtgcdbmcoendcdaaGreat
namespace Go.Proofs.YtgcdbmcoendcdaaGreat
open Go.RowKit
def yF (s : ByteArray) (k : Nat) (pair : Bool) : Bool :=
 if s.toList == [116, 114, 117, 101] || s.toList == [102, 97, 108, 115, 101] || s.toList == [91, 93] then (k : Int) == 0
 else if s.toList == [58, 58] then ((k : Int) == 1) && pair
 else conM s.data.toList && decide ((k : Int) <= 1)
abbrev yY (xs : List DPNode) : List (List Int) := xs.map fun x => x.kids
theorem Xe (xs : List DPNode) : (yY xs).length = xs.length := List.length_map ..
theorem kidsP_at (xs : List DPNode) (k : Nat) (h : k < xs.length) : (yY xs)[k]'(by simpa using h) = xs[k].kids := by simp
def vD (xs : List DPNode) (l : List Int) : Bool := match l with
 | [k] => decide (0 <= k) && decide (k < xs.length) && (match xs[k.toNat]? with | some x => x.kind == 5 | none => false)
 | _ => false
theorem V3 (xs : List DPNode) (l : List Int) (h : ¬ l.length = 1) : vD xs l = false := by
 unfold vD
 split
 ·simp at h
 ·rfl
theorem V2 (xs : List DPNode) (l : List Int) (h : l.length = 1) (k : Nat) (hk : k < xs.length) (hl : l[0]'(by omega) = (k : Int)) : vD xs l = (xs[k].kind == 5) := by
 match l, h with
 | [z], _ =>
  have hz : z = (k : Int) := hl
  subst hz
  have e : vD xs [(k : Int)] = (decide (0 <= (k : Int)) && decide ((k : Int) < xs.length) && (match xs[(k : Int).toNat]? with | some x => x.kind == 5 | none => false)) := rfl
  rw [e, decide_eq_true (by omega), decide_eq_true (by omega), Int.toNat_natCast, List.getElem?_eq_getElem hk]
  rfl
theorem U2 (xs : List DPNode) (l : List Int) (h : l.length = 1) (hl : l[0]'(by omega) < 0 \/ (xs.length : Int) <= l[0]'(by omega)) : vD xs l = false := by
 match l, h with
 | [z], _ =>
  have hz : z < 0 \/ (xs.length : Int) <= z := hl
  have e : vD xs [z] = (decide (0 <= z) && decide (z < xs.length) && (match xs[z.toNat]? with | some x => x.kind == 5 | none => false)) := rfl
  rw [e]
  rcases hz with hz | hz
  ·rw [decide_eq_false (by omega)]; rfl
  ·rw [decide_eq_false (p := z < (xs.length : Int)) (by omega), Bool.and_false]; rfl
def y7 (p : Bool) (x : DPNode) : Bool :=
 if x.kind = 3 then ((x.kids.length : Int) == 0) && x.s.toList.isEmpty && (decide (-4611686018427387903 <= x.n) && decide (x.n <= 4611686018427387903))
 else if x.kind = 2 then ((x.kids.length : Int) == 0) && (x.n == 0) && yl x.s
 else if x.kind = 6 \/ x.kind = 1 then ((x.kids.length : Int) == 0) && (x.n == 0) && x.s.toList.isEmpty
 else if x.kind = 5 then ((x.kids.length : Int) == 2) && (x.n == 0) && x.s.toList.isEmpty
 else if x.kind = 4 then (x.n == 0) && yF x.s x.kids.length p
 else false
def zF (xs : List DPNode) (x : DPNode) : Bool := y7 (vD xs x.kids) x
def dupB (y x : DPNode) : Bool := (x.kind == 2) && ((y.kind == 2) && decide (y.s = x.s))
def yA (xs : List DPNode) (i : Nat) (h : i < xs.length) : Bool := zF xs xs[i] && (xs.take i).all fun y => !dupB y xs[i]
def patM (xs : List DPNode) : Bool := decide (1 <= xs.length) && decide (xs.length <= 600) && (List.finRange xs.length).all (fun i => yA xs i.1 i.2) && xR (yY xs)
theorem W9 {n : Nat} {p : Fin n -> Bool} : (List.finRange n).all p = true ↔ ∀ i, p i = true := by simp [List.all_eq_true]
theorem Yf {xs : List DPNode} {k : Nat} (h : k < xs.length) (hb : yA xs k h = false) : patM xs = false := by
 have : (List.finRange xs.length).all (fun i => yA xs i.1 i.2) = false := by
  rw [List.all_eq_false]
  exact ⟨⟨k, h⟩, List.mem_finRange _, by simp [hb]⟩
 unfold patM
 rw [this, Bool.and_false, Bool.false_and]
theorem Zu {xs : List DPNode} {k : Nat} (h : k < xs.length) (hb : zF xs xs[k] = false) : yA xs k h = false := by unfold yA; rw [hb]; rfl
theorem Zv {xs : List DPNode} {k j : Nat} (h : k < xs.length) (hj : j < k) (hb : dupB (xs[j]'(by omega)) xs[k] = true) : yA xs k h = false := by
 unfold yA
 have : ((xs.take k).all fun y => !dupB y xs[k]) = false := by
  rw [List.all_eq_false]
  refine ⟨xs[j]'(by omega), ?_, by rw [hb]; simp⟩
  rw [List.mem_take_iff_getElem]
  exact ⟨j, by omega, rfl⟩
 rw [this, Bool.and_false]
theorem UR {xs : List DPNode} {k : Nat} (h : k < xs.length) (hb : zF xs xs[k] = true) (hd : ∀ j (hj : j < k), dupB (xs[j]'(by omega)) xs[k] = false) : yA xs k h = true := by
 unfold yA
 rw [hb, Bool.true_and, List.all_eq_true]
 intro y hy
 rw [List.mem_take_iff_getElem] at hy
 obtain ⟨j, hj, rfl⟩ := hy
 rw [hd j (by omega)]; rfl
theorem YG {xs : List DPNode} {k : Nat} (h : ∀ j (hj : j < xs.length), j < k -> yA xs j hj = true) (hlt : k < xs.length) (hk : yA xs k hlt = true) : ∀ j (hj : j < xs.length), j < k + 1 -> yA xs j hj = true := fun j hj hjk => by
 rcases Nat.lt_or_ge j k with q | q
 ·exact h j hj q
 ·obtain rfl : j = k := by omega
  exact hk
theorem U1 (ks : List (List Int)) (n : Nat) : ∀ (l : List Int) (m e : Nat), yM (pEnd ks n) l m = some e -> ∀ z ∈ l, ∃ q : Nat, z = (q : Int) /\ q < ks.length
 | [], m, e, h, z, hz => by cases hz
 | k :: l, m, e, h, z, hz => by
  rw [uI] at h
  cases hc : ym ks n k m with
  | none => rw [hc] at h; cases h
  | some e1 =>
   rw [hc] at h
   have hb := Wg hc
   rcases List.mem_cons.1 hz with rfl | hz
   ·exact ⟨m, hb.1, by omega⟩
   ·exact U1 ks n l e1 e h z hz
theorem Ye (ks : List (List Int)) : ∀ (n m e : Nat), pEnd ks n m = some e -> ∀ k (h : k < ks.length), m <= k -> k < e -> ∀ z ∈ ks[k], ∃ q : Nat, z = (q : Int) /\ q < ks.length
 | 0, m, e, h => by cases h
 | n + 1, m, e, h => by
  intro k hk h1 h2 z hz
  have hm : m < ks.length := by
   rcases Nat.lt_or_ge m ks.length with q | q
   ·exact q
   ·rw [vW _ _ _ q] at h; cases h
  rw [vK _ _ _ hm] at h
  by_cases hkm : k = m
  ·subst hkm
   exact U1 ks n _ _ _ h z hz
  ·have key : ∀ (l : List Int) (m e : Nat), yM (pEnd ks n) l m = some e -> m <= k -> k < e -> ∃ q : Nat, z = (q : Int) /\ q < ks.length := by
    intro l
    induction l with
    | nil =>
     intro m e h a b
     have h' : some m = some e := h
     injection h' with h'; omega
    | cons k0 l ih =>
     intro m e h a b
     rw [uI] at h
     cases hc : ym ks n k0 m with
     | none => rw [hc] at h; cases h
     | some e1 =>
      rw [hc] at h
      have hb := Wg hc
      by_cases hke : k < e1
      ·unfold ym at hc
       rw [if_pos hb.1] at hc
       exact Ye ks n m e1 hc k hk a hke z hz
      ·exact ih e1 e h (by omega) b
   exact key _ _ _ h (by omega) h2
theorem order_inP {xs : List DPNode} (h : xR (yY xs) = true) (k : Nat) (hk : k < xs.length) (h1 : xs[k].kids.length = 1) : ∃ q : Nat, xs[k].kids[0]'(by omega) = (q : Int) /\ q < xs.length := by
 unfold xR at h
 have he : pEnd (yY xs) (yY xs).length 0 = some (yY xs).length := by simpa using h
 have := Ye (yY xs) _ _ _ he k (by rw [Xe]; exact hk) (Nat.zero_le _) (by rw [Xe]; exact hk) (xs[k].kids[0]'(by omega)) (by rw [kidsP_at xs k hk]; exact List.getElem_mem _)
 rw [Xe] at this
 exact this
def NamesAt (xs : List DPNode) (k : Nat) (ns : List ByteArray) : Prop := ns.length <= k /\ ∀ s, s ∈ ns ↔ ∃ j, ∃ h : j < xs.length, j < k /\ xs[j].kind = 2 /\ xs[j].s = s
theorem NamesAt.zero (xs : List DPNode) : NamesAt xs 0 [] := ⟨Nat.le_refl _, fun s => ⟨fun h => (by cases h), fun ⟨j, _, hj, _⟩ => (by omega)⟩⟩
theorem NamesAt.skip {xs : List DPNode} {k : Nat} {ns : List ByteArray} (h : NamesAt xs k ns) (hk : k < xs.length) (h2 : xs[k].kind ≠ 2) : NamesAt xs (k + 1) ns := by
 refine ⟨by have := h.1; omega, fun s => ?_⟩
 rw [h.2 s]
 constructor
 ·rintro ⟨j, hj, a, b⟩
  exact ⟨j, hj, by omega, b⟩
 ·rintro ⟨j, hj, a, b, c⟩
  refine ⟨j, hj, ?_, b, c⟩
  rcases Nat.lt_or_ge j k with q | q
  ·exact q
  ·obtain rfl : j = k := by omega
   exact absurd b h2
theorem NamesAt.add {xs : List DPNode} {k : Nat} {ns : List ByteArray} (h : NamesAt xs k ns) (hk : k < xs.length) (h2 : xs[k].kind = 2) : NamesAt xs (k + 1) (ns ++ [xs[k].s]) := by
 refine ⟨by have := h.1; simp; omega, fun s => ?_⟩
 rw [List.mem_append, h.2 s, List.mem_singleton]
 constructor
 ·rintro (⟨j, hj, a, b⟩ | rfl)
  ·exact ⟨j, hj, by omega, b⟩
  ·exact ⟨k, hk, by omega, h2, rfl⟩
 ·rintro ⟨j, hj, a, b, c⟩
  rcases Nat.lt_or_ge j k with q | q
  ·exact .inl ⟨j, hj, q, b, c⟩
  ·obtain rfl : j = k := by omega
   exact .inr c.symm
theorem NamesAt.dup {xs : List DPNode} {k : Nat} {ns : List ByteArray} (h : NamesAt xs k ns) (hk : k < xs.length) (h2 : xs[k].kind = 2) (hi : inL xs[k].s ns = true) : yA xs k hk = false := by
 obtain ⟨j, hj, a, b, c⟩ := (h.2 _).1 ((uT _ _).1 hi)
 exact Zv hk a (by unfold dupB; rw [h2, b, decide_eq_true c]; rfl)
theorem NamesAt.none {xs : List DPNode} {k : Nat} {ns : List ByteArray} (h : NamesAt xs k ns) (hk : k < xs.length) (hp : zF xs xs[k] = true) (hi : xs[k].kind = 2 -> inL xs[k].s ns = false) : yA xs k hk = true := by
 refine UR hk hp fun j hj => ?_
 unfold dupB
 by_cases h2 : xs[k].kind = 2
 ·have hn := hi h2
  by_cases hj2 : (xs[j]'(by omega)).kind = 2
  ·by_cases hs : (xs[j]'(by omega)).s = xs[k].s
   ·have : inL xs[k].s ns = true := (uT _ _).2 ((h.2 _).2 ⟨j, by omega, hj, hj2, hs⟩)
    rw [this] at hn; cases hn
   ·rw [decide_eq_false hs]; simp
  ·simp [hj2]
 ·simp [h2]
theorem RepL.inv {S : Nat -> Prop} {up : Nat -> Option Pos} {W : World} {d : D} {ds : List D} {us : List Value} (h : RepL S up W (d :: ds) us) : ∃ u t, us = u :: t /\ Rep S up W none d u /\ RepL S up W ds t := by
 obtain ⟨h1, h2⟩ := h
 match us, h1 with
 | u :: t, h1 => exact ⟨u, t, rfl, h2 0 d u rfl rfl, by simpa using h1, fun j d' u' q1 q2 => h2 (j + 1) d' u' (by simpa using q1) (by simpa using q2)⟩
theorem two_args {P : Nat -> D -> Value -> Prop} {b c : D} {vs : List Value} (hl : vs.length = [b, c].length) (h : ∀ (j : Nat) (x : D) (u : Value), [b, c][j]? = some x -> vs[j]? = some u -> P j x u) : ∃ v u, vs = [v, u] /\ P 0 b v /\ P 1 c u := by
 match vs, hl with
 | [v, u], _ => exact ⟨v, u, rfl, h 0 b v rfl rfl, h 1 c u rfl rfl⟩
theorem SlOf.mapR {α β : Type} {k : Nat} {R : Hp -> List Value -> α -> Prop} {R' : Hp -> List Value -> β -> Prop} {h : Hp} {v : Value} {xs : List α} (f : α -> β) (hR : ∀ r x, R h r x -> R' h r (f x)) (q : SlOf k R h v xs) : SlOf k R' h v (xs.map f) := by
 obtain ⟨a, c, e, h1, h2, r⟩ := q
 refine ⟨a, c, by simpa using e, by simpa using h1, h2, r.imp (fun z => by simp [z]) ?_⟩
 rintro ⟨b, off, ea, hc⟩
 refine ⟨b, off, ea, fun i hi => ?_⟩
 obtain ⟨r, r1, r2, r3⟩ := hc i (by simpa using hi)
 exact ⟨r, r1, r2, by simpa using hR _ _ r3⟩
theorem intS_of {S : Nat -> Prop} {up : Nat -> Option Pos} {W : World} {v : Value} {l : List Int} (h : Rep S up W none (.sl 1 (l.map iE)) v) (ho : ∀ x ∈ l, I64 x) : IntS (hp W) v l :=
 Rep.slOf (enc := iE) (fun _ _ => rfl) (by decide) (fun r x hx hr => by
  rw [xQ] at hr
  obtain ⟨u0, t0, rfl, h0, hr⟩ := hr.inv
  obtain rfl : t0 = [] := List.eq_nil_of_length_eq_zero (by have := hr.1; simpa using this)
  obtain rfl : u0 = .int .i64 x := Rep.s_inv h0
  exact ⟨rfl, ho x hx⟩) h
theorem UT {α : Type} {enc : α -> List D} {kids : α -> List Int} {k c : Nat} (hk : 0 < k) {S : Nat -> Prop} {up : Nat -> Option Pos} {W : World} {v : Value} {xs : List α} (hl : ∀ x ∈ xs, (enc x).length = k) (hc : ∀ x ∈ xs, (enc x)[c]? = some (.sl 1 ((kids x).map iE))) (h : Rep S up W none (.sl k (xs.map enc)) v) (ho : ∀ x ∈ xs, ∀ z ∈ kids x, I64 z) : KidsAt k c (hp W) v (xs.map kids) := by
 refine SlOf.mapR (R := fun h r (x : α) => KidR k c h r (kids x)) kids (fun r x q => q) ?_
 refine Rep.slOf (enc := enc) hl hk (fun r x hx hr => ?_) h
 have h1 := hl x hx
 have h2 := hc x hx
 have hlt : c < r.length := by rw [hr.1]; exact (List.getElem?_eq_some_iff.1 h2).1
 exact ⟨by rw [hr.1, h1], r[c], List.getElem?_eq_getElem hlt, intS_of (hr.2 c _ _ h2 (List.getElem?_eq_getElem hlt)) (ho x hx)⟩
theorem pat_kids (w : World) (h : Hp) (hs : Sub h w) (v : Value) (ks : List (List Int)) (hv : KidsAt 4 3 h v ks) (hl : ks.length <= 1000000000) (Bd Od : Nat) (hB : w.cell? ⟨Bd, Od, none⟩ = some v) (i : Nat) (hi : i < ks.length) :
  Calls Tryz.prog 106 #[.int .i64 i, .pointer (some ⟨Bd, Od, none⟩)] w fun e w' => KidQ h w ks[i] e w' := by
 have HV := Lib.hid hv
 obtain ⟨a, c, rfl, hc1, hc2, -⟩ := hv
 unfold maxLen at hc2
 obtain ⟨b, off, rfl, hcell⟩ := HV.out.cell hi
 obtain ⟨v1, hrel, hcs⟩ := hcell i hi
 have c3 := hcs w hs
 have HR := Lib.hid hrel
 clear hcell hcs hrel
 go_enter Tryz.func106, Tryz.ntmps106
 go_wp2_with fail
 go_ret
 exact ⟨_, rfl, HR.out, (by repeat (first | with_reducible exact Below.refl _ _ | with_reducible assumption | with_reducible refine Below.setCell ?_ ?_ _ | with_reducible refine Below.alloc ?_ ?_ _ | with_reducible refine Below.drew ?_ | (with_reducible apply uZ; with_reducible assumption) | exact Nat.le_refl _ | omega | (simp <;> omega)))⟩
theorem ent_of {f : FuncId} {fn : Func} {c : Code} (hf : Tryz.prog.funcs[f]? = some fn) (hname : (fn.name == "runtime.NumGoroutine") = false) (hb : fn.body = some c) (vs : Array Value) (w : World) : (callFunc f vs).run Tryz.prog w = .ok (.enter f vs) w := by
 have hname' : ¬ fn.name = "runtime.NumGoroutine" := by simpa using hname
 have hbn : ¬ fn.body = none := by rw [hb]; simp
 simp [callFunc, hf, hname', hbn]
theorem Uy (K : FuncId) (hEnt : ∀ vs w, (callFunc K vs).run Tryz.prog w = .ok (.enter K vs) w) (ks : List (List Int)) (row : List D) (hl : ks.length <= 1000000000) (hks : ∀ k ∈ ks, k.length <= 1000000000)
  (hK : ∀ (w : World) (S : Nat -> Prop) (up : Nat -> Option Pos) (v : Value), Rep S up w none (.pt row) v -> ∀ w1, Below w.heap.size w w1 -> ∀ m (hm : m < ks.length), Calls Tryz.prog K #[.int .i64 m, v] w1 fun e w' => KidQ (hp w) w1 ks[m] e w') :
  FCon Tryz.prog 95 [.s (.int .i64 ks.length), .fn K [.pt row]] (fun r _ => r = .s (.bool (xR ks))) := by
 refine FCon.ofBelow Tryz.func95 (by kernel_rfl) rfl (Rv := (· = .bool (xR ks))) (fun v hv => by subst hv; exact ⟨rfl, rfl⟩) rfl fun w S up vs h1 h2 => ?_
 obtain ⟨v, u, rfl, hv, hu⟩ := two_args (P := fun _ b u => RB S up w b u) h1 h2
 obtain rfl : v = .int .i64 ks.length := Rep.s_inv (show Rep S up w none (.s (.int .i64 ks.length)) v from hv)
 cases (show Rep S up w none (.fn K [.pt row]) u from hu) with
 | fn us hus =>
  have hp := hus 0 _ rfl
  have e : ((List.range [D.pt row].length).map us).toArray = #[us 0] := by simp
  rw [e]
  exact (VW w ks hl (fun k h => hks _ (List.getElem_mem h)) K (us 0) hEnt fun w1 hb m hm => hK w S up _ hp w1 hb m hm).mono fun e w' ⟨q1, q2⟩ => ⟨_, q1, rfl, q2⟩
theorem Ww (xs : List DPNode) (ho : ∀ x ∈ xs, x.ok) (hl : xs.length <= 1000000000) (hks : ∀ x ∈ xs, x.kids.length <= 1000000000) :
  FCon Tryz.prog 95 [.s (.int .i64 xs.length), .fn 106 [.pt [.sl 4 (xs.map DPNode.enc)]]] (fun r _ => r = .s (.bool (xR (yY xs)))) := by
 have hlen : (xs.map DPNode.kids).length = xs.length := List.length_map _
 have := Uy 106 (ent_of Tryz.func106 rfl rfl) (xs.map DPNode.kids) [.sl 4 (xs.map DPNode.enc)] (by rw [hlen]; exact hl) (fun k h => by obtain ⟨x, hx, rfl⟩ := List.mem_map.1 h; exact hks x hx) fun w S up v hv w1 hb m hm => by
  cases hv with
  | @pt _ _ b off ws hc hr =>
   have c1 := (hc 0 _ rfl).2
   have hk := UT (enc := DPNode.enc) (kids := DPNode.kids) (k := 4) (c := 3) (by decide) (fun _ _ => rfl) (fun _ _ => rfl) (hr 0 _ rfl) (fun x hx => (ho x hx).2.2.2)
   exact pat_kids w1 (hp w) ((Sub.self w).below hb) _ _ hk (by rw [hlen]; exact hl) b off (we hb c1) m hm
 rw [hlen] at this
 exact this
theorem litTrue : (⟨#[116, 114, 117, 101]⟩ : ByteArray).toList = [116, 114, 117, 101] := by kernel_rfl
theorem VT : (⟨#[102, 97, 108, 115, 101]⟩ : ByteArray).toList = [102, 97, 108, 115, 101] := by kernel_rfl
theorem litNil : (⟨#[91, 93]⟩ : ByteArray).toList = [91, 93] := by kernel_rfl
theorem litCons : (⟨#[58, 58]⟩ : ByteArray).toList = [58, 58] := by kernel_rfl
theorem wj (s : ByteArray) (hs : s.size <= maxLen) (k : Nat) (p : Bool) : FCon Tryz.prog 148 [.s (.string s), .s (.int .i64 k), .s (.bool p)] (fun r _ => r = .s (.bool (yF s k p))) := by
 refine FI PM Tryz.func148 Tryz.ntmps148 [] rfl rfl ?_
 (have hWf := w4 @litTrue @VT @litNil @litCons; repeat' (first | refine zS ?_ | refine zI ?_ ?_ | refine zK (wq s hs) ?_ | exact zF0 | refine zD fun hb => ?_ | exact zC | refine zT ?_ | fail))
 all_goals exact sB (by grind [yF])
theorem yb (s : ByteArray) (hs : s.size <= maxLen) (k : Nat) (p : Bool) : FCon Tryz.prog 113 [.s (.string s), .s (.int .i64 k), .s (.bool p)] (fun r _ => r = .s (.bool (yF s k p))) := by
 refine FI PM Tryz.func113 Tryz.ntmps113 [] rfl rfl ?_
 (have hWf := w4 @litTrue @VT @litNil @litCons; repeat' (first | refine zS ?_ | refine zI ?_ ?_ | refine zK (yy s hs) ?_ | exact zF0 | refine zD fun hb => ?_ | exact zC | refine zT ?_ | fail))
 all_goals exact sB (by grind [yF])
theorem ut {p : Bool} {x : DPNode} (h : x.kind < 1 \/ 6 < x.kind) : y7 p x = false := by
 unfold y7
 rw [if_neg (by omega), if_neg (by omega), if_neg (by omega), if_neg (by omega), if_neg (by omega)]
theorem patN_4 (xs : List DPNode) (n : Int) (s : ByteArray) (kids : List Int) (hs : s.size <= maxLen) (hkl : kids.length <= 1048576) (hin : ∀ h1 : kids.length = 1, ∃ k : Nat, kids[0]'(by omega) = (k : Int) /\ k < xs.length) : FCon Tryz.prog 107 [.ag [.sl 4 (xs.map DPNode.enc)], .ag (DPNode.mk 4 n s kids).enc] (fun r _ => r = .s (.bool (zF xs ⟨4, n, s, kids⟩))) := by
 have e : zF xs ⟨4, n, s, kids⟩ = ((n == 0) && yF s kids.length (vD xs kids)) := by unfold zF y7; simp
 rw [e]
 match kids, hkl, hin with
 | [], _, _ =>
  refine FI PM Tryz.func107 Tryz.ntmps107 [(11, 21, [], [], (lin [] [0, 1, 2, 3, 4, 5, 6, 7, 8, 9, 10, 11, 12, 13, 14, 15, 16, 17, 18, 19, 20]))] rfl rfl ?_
  (have hWf := w1 @DPNode.enc_eq; repeat' (first | refine zS ?_ | refine zI ?_ ?_ | refine zK (wj s hs 0 false) ?_ | exact zF0 | refine zD fun hb => ?_ | exact zC | refine zT ?_ | fail))
  all_goals rfl
 | [z], _, hin =>
  obtain ⟨k, hz, hk⟩ := hin rfl
  have hz : z = (k : Int) := hz
  subst hz
  rw [V2 xs [(k : Int)] rfl k hk rfl]
  have hg := xh DPNode.enc xs k hk
  have he := DPNode.enc_eq xs[k]
  refine FI PM Tryz.func107 Tryz.ntmps107 [(11, 21, [], [], (lin [] [0, 1, 2, 3, 4, 5, 6, 7, 8, 9, 10, 11, 12, 13, 14, 15, 16, 17, 18, 19, 20]))] rfl rfl ?_
  (have hWf := w4 @DPNode.enc_eq @hg @he @xQ; repeat' (first | refine zS ?_ | refine zI ?_ ?_ | refine zK (wj s hs 1 (xs[k].kind == 5)) ?_ | exact zF0 | refine zD fun hb => ?_ | exact zC | refine zT ?_ | fail))
 | a :: b :: l, _, _ =>
  rw [V3 xs (a :: b :: l) (by simp)]
  have hl1 : (((l.length + 1 + 1 : Nat) : Int) == 1) = false := by simp; omega
  cases hn : (n == 0)
  all_goals
   refine FI (PMr [11]) Tryz.func107 Tryz.ntmps107 [(11, 21, [], [], (lin [] [0, 1, 2, 3, 4, 5, 6, 7, 8, 9, 10, 11, 12, 13, 14, 15, 16, 17, 18, 19, 20]))] rfl rfl ?_
   (have hWf := w4 @DPNode.enc_eq @xQ @hl1 @hn; repeat' (first | refine zS ?_ | refine zI ?_ ?_ | refine zK (wj s hs (l.length + 1 + 1) false) ?_ | exact zF0 | refine zD fun hb => ?_ | exact zC | refine zT ?_ | fail))
theorem QB (xs : List DPNode) (x : DPNode) (hx : x.ok) (hkl : x.kids.length <= 1048576) (hin : ∀ h1 : x.kids.length = 1, ∃ k : Nat, x.kids[0]'(by omega) = (k : Int) /\ k < xs.length) : FCon Tryz.prog 107 [.ag [.sl 4 (xs.map DPNode.enc)], .ag x.enc] (fun r _ => r = .s (.bool (zF xs x))) := by
 obtain ⟨kind, n, s, kids⟩ := x
 obtain ⟨-, -, hs, -⟩ := hx
 dsimp only at hkl hin hs
 by_cases hr : kind < 1 \/ 6 < kind
 ·rw [show zF xs ⟨kind, n, s, kids⟩ = false from ut hr]
  have e1 : (kind == 1) = false := by simp; omega
  have e2 : (kind == 2) = false := by simp; omega
  have e3 : (kind == 3) = false := by simp; omega
  have e4 : (kind == 4) = false := by simp; omega
  have e5 : (kind == 5) = false := by simp; omega
  have e6 : (kind == 6) = false := by simp; omega
  refine FI PM Tryz.func107 Tryz.ntmps107 [(11, 21, [], [], (lin [] [0, 1, 2, 3, 4, 5, 6, 7, 8, 9, 10, 11, 12, 13, 14, 15, 16, 17, 18, 19, 20]))] rfl rfl ?_
  (have hWf := w7 @DPNode.enc_eq @e1 @e2 @e3 @e4 @e5 @e6; repeat' (first | refine zS ?_ | refine zI ?_ ?_ | exact zF0 | refine zD fun hb => ?_ | exact zC | refine zT ?_ | fail))
 ·by_cases h4 : kind = 4
  ·subst h4
   exact patN_4 xs n s kids hs hkl hin
  ·rcases (show kind = 1 \/ kind = 2 \/ kind = 3 \/ kind = 5 \/ kind = 6 by omega) with rfl | rfl | rfl | rfl | rfl
   all_goals
    clear hin h4 hr
    refine FI PM Tryz.func107 Tryz.ntmps107 [(11, 21, [], [], (lin [] [0, 1, 2, 3, 4, 5, 6, 7, 8, 9, 10, 11, 12, 13, 14, 15, 16, 17, 18, 19, 20]))] rfl rfl ?_
    (have hWf := w1 @DPNode.enc_eq; repeat' (first | refine zS ?_ | refine zI ?_ ?_ | refine zK (wE s hs) ?_ | refine zK (yn n (-4611686018427387903) 4611686018427387903) ?_ | exact zF0 | refine zD fun hb => ?_ | exact zC | refine zT ?_ | fail))
    all_goals exact sB (by unfold zF y7; first | (simp_all; done) | grind)
theorem geB {a b : Int} (h : a <= b) : decide (b ≥ a) = true := decide_eq_true h
theorem l04P_N (xs : List DPNode) (hl : xs.length <= 1048576) (kind n : Int) (s : ByteArray) (hs : s.size <= maxLen) : FCon Tryz.prog 186 [.ag [.sl 4 (xs.map DPNode.enc)], .ag (DPNode.mk kind n s []).enc] (fun r _ => r = .s (.bool (y7 false ⟨kind, n, s, []⟩))) := by
 rcases (show (kind < 1 \/ 6 < kind) \/ kind = 1 \/ kind = 2 \/ kind = 3 \/ kind = 4 \/ kind = 5 \/ kind = 6 by omega) with hr | hin
 ·have e1 : (kind == 1) = false := by simp; omega
  have e2 : (kind == 2) = false := by simp; omega
  have e3 : (kind == 3) = false := by simp; omega
  have e4 : (kind == 4) = false := by simp; omega
  have e5 : (kind == 5) = false := by simp; omega
  have e6 : (kind == 6) = false := by simp; omega
  rw [ut (by exact hr)]
  refine FI (PMr [1]) Tryz.func186 Tryz.ntmps186 [(1, 28, [], [], (lin [] [0, 1, 2, 3, 4, 5, 6, 7, 8, 9, 10, 11, 12, 13, 14, 15, 16, 17, 18, 19, 20, 21, 22, 23, 24, 25, 26, 27]))] rfl rfl ?_
  (have hWf := w8 @DPNode.enc_eq @xQ @e1 @e2 @e3 @e4 @e5 @e6; repeat' (first | refine zS ?_ | refine zI ?_ ?_ | exact zF0 | refine zD fun hb => ?_ | exact zC | refine zT ?_ | fail))
 ·rcases hin with rfl | rfl | rfl | rfl | rfl | rfl
  all_goals
   refine FI (PMr [1]) Tryz.func186 Tryz.ntmps186 [(1, 28, [], [], (lin [] [0, 1, 2, 3, 4, 5, 6, 7, 8, 9, 10, 11, 12, 13, 14, 15, 16, 17, 18, 19, 20, 21, 22, 23, 24, 25, 26, 27]))] rfl rfl ?_
   (have hWf := w2 @DPNode.enc_eq @xQ; repeat' (first | refine zS ?_ | refine zI ?_ ?_ | ((with_reducible apply xc); refine zG (yb s hs _ _) ?_) | ((with_reducible apply xl); refine xi (yb s hs _ _) ?_) | refine zK (xr s hs) ?_ | exact zF0 | refine zD fun hb => ?_ | exact zC | refine zT ?_ | fail))
   all_goals exact sB (by unfold y7; first | (simp_all; done) | grind)
theorem l04P_B (xs : List DPNode) (hl : xs.length <= 1048576) (kind n : Int) (s : ByteArray) (hs : s.size <= maxLen) (z : Int) (g1 : decide (z ≥ 0) = false) : FCon Tryz.prog 186 [.ag [.sl 4 (xs.map DPNode.enc)], .ag (DPNode.mk kind n s [z]).enc] (fun r _ => r = .s (.bool (y7 false ⟨kind, n, s, [z]⟩))) := by
 rcases (show (kind < 1 \/ 6 < kind) \/ kind = 1 \/ kind = 2 \/ kind = 3 \/ kind = 4 \/ kind = 5 \/ kind = 6 by omega) with hr | hin
 ·have e1 : (kind == 1) = false := by simp; omega
  have e2 : (kind == 2) = false := by simp; omega
  have e3 : (kind == 3) = false := by simp; omega
  have e4 : (kind == 4) = false := by simp; omega
  have e5 : (kind == 5) = false := by simp; omega
  have e6 : (kind == 6) = false := by simp; omega
  rw [ut (by exact hr)]
  refine FI (PMr [1]) Tryz.func186 Tryz.ntmps186 [(1, 28, [], [], (lin [] [0, 1, 2, 3, 4, 5, 6, 7, 8, 9, 10, 11, 12, 13, 14, 15, 16, 17, 18, 19, 20, 21, 22, 23, 24, 25, 26, 27]))] rfl rfl ?_
  (have hWf := w9 @DPNode.enc_eq @xQ @g1 @e1 @e2 @e3 @e4 @e5 @e6; repeat' (first | refine zS ?_ | refine zI ?_ ?_ | exact zF0 | refine zD fun hb => ?_ | exact zC | refine zT ?_ | fail))
 ·rcases hin with rfl | rfl | rfl | rfl | rfl | rfl
  all_goals
   refine FI (PMr [1]) Tryz.func186 Tryz.ntmps186 [(1, 28, [], [], (lin [] [0, 1, 2, 3, 4, 5, 6, 7, 8, 9, 10, 11, 12, 13, 14, 15, 16, 17, 18, 19, 20, 21, 22, 23, 24, 25, 26, 27]))] rfl rfl ?_
   (have hWf := w3 @DPNode.enc_eq @xQ @g1; repeat' (first | refine zS ?_ | refine zI ?_ ?_ | ((with_reducible apply xc); refine zG (yb s hs _ _) ?_) | ((with_reducible apply xl); refine xi (yb s hs _ _) ?_) | refine zK (xr s hs) ?_ | exact zF0 | refine zD fun hb => ?_ | exact zC | refine zT ?_ | fail))
   all_goals exact sB (by unfold y7; first | (simp_all; done) | grind)
theorem l04P_O (xs : List DPNode) (hl : xs.length <= 1048576) (kind n : Int) (s : ByteArray) (hs : s.size <= maxLen) (z : Int) (g1 : decide (z ≥ 0) = true) (g2 : decide (z < (xs.length : Int)) = false) : FCon Tryz.prog 186 [.ag [.sl 4 (xs.map DPNode.enc)], .ag (DPNode.mk kind n s [z]).enc] (fun r _ => r = .s (.bool (y7 false ⟨kind, n, s, [z]⟩))) := by
 rcases (show (kind < 1 \/ 6 < kind) \/ kind = 1 \/ kind = 2 \/ kind = 3 \/ kind = 4 \/ kind = 5 \/ kind = 6 by omega) with hr | hin
 ·have e1 : (kind == 1) = false := by simp; omega
  have e2 : (kind == 2) = false := by simp; omega
  have e3 : (kind == 3) = false := by simp; omega
  have e4 : (kind == 4) = false := by simp; omega
  have e5 : (kind == 5) = false := by simp; omega
  have e6 : (kind == 6) = false := by simp; omega
  rw [ut (by exact hr)]
  refine FI (PMr [1]) Tryz.func186 Tryz.ntmps186 [(1, 28, [], [], (lin [] [0, 1, 2, 3, 4, 5, 6, 7, 8, 9, 10, 11, 12, 13, 14, 15, 16, 17, 18, 19, 20, 21, 22, 23, 24, 25, 26, 27]))] rfl rfl ?_
  (have hWf := w10 @DPNode.enc_eq @xQ @g1 @g2 @e1 @e2 @e3 @e4 @e5 @e6; repeat' (first | refine zS ?_ | refine zI ?_ ?_ | exact zF0 | refine zD fun hb => ?_ | exact zC | refine zT ?_ | fail))
 ·rcases hin with rfl | rfl | rfl | rfl | rfl | rfl
  all_goals
   refine FI (PMr [1]) Tryz.func186 Tryz.ntmps186 [(1, 28, [], [], (lin [] [0, 1, 2, 3, 4, 5, 6, 7, 8, 9, 10, 11, 12, 13, 14, 15, 16, 17, 18, 19, 20, 21, 22, 23, 24, 25, 26, 27]))] rfl rfl ?_
   (have hWf := w4 @DPNode.enc_eq @xQ @g1 @g2; repeat' (first | refine zS ?_ | refine zI ?_ ?_ | ((with_reducible apply xc); refine zG (yb s hs _ _) ?_) | ((with_reducible apply xl); refine xi (yb s hs _ _) ?_) | refine zK (xr s hs) ?_ | exact zF0 | refine zD fun hb => ?_ | exact zC | refine zT ?_ | fail))
   all_goals exact sB (by unfold y7; first | (simp_all; done) | grind)
theorem l04P_K (xs : List DPNode) (hl : xs.length <= 1048576) (kind n : Int) (s : ByteArray) (hs : s.size <= maxLen) (k : Nat) (hk : k < xs.length) : FCon Tryz.prog 186 [.ag [.sl 4 (xs.map DPNode.enc)], .ag (DPNode.mk kind n s [(k : Int)]).enc] (fun r _ => r = .s (.bool (y7 (xs[k].kind == 5) ⟨kind, n, s, [(k : Int)]⟩))) := by
 have g1 := geB (Int.natCast_nonneg k)
 have g2 := decide_eq_true (show (k : Int) < xs.length by omega)
 have g3 := xh DPNode.enc xs k hk
 have g4 := DPNode.enc_eq xs[k]
 rcases (show (kind < 1 \/ 6 < kind) \/ kind = 1 \/ kind = 2 \/ kind = 3 \/ kind = 4 \/ kind = 5 \/ kind = 6 by omega) with hr | hin
 ·have e1 : (kind == 1) = false := by simp; omega
  have e2 : (kind == 2) = false := by simp; omega
  have e3 : (kind == 3) = false := by simp; omega
  have e4 : (kind == 4) = false := by simp; omega
  have e5 : (kind == 5) = false := by simp; omega
  have e6 : (kind == 6) = false := by simp; omega
  rw [ut (by exact hr)]
  refine FI (PMr [1]) Tryz.func186 Tryz.ntmps186 [(1, 28, [], [], (lin [] [0, 1, 2, 3, 4, 5, 6, 7, 8, 9, 10, 11, 12, 13, 14, 15, 16, 17, 18, 19, 20, 21, 22, 23, 24, 25, 26, 27]))] rfl rfl ?_
  (have hWf := w12 @DPNode.enc_eq @xQ @g1 @g2 @g3 @g4 @e1 @e2 @e3 @e4 @e5 @e6; repeat' (first | refine zS ?_ | refine zI ?_ ?_ | exact zF0 | refine zD fun hb => ?_ | exact zC | refine zT ?_ | fail))
 ·rcases hin with rfl | rfl | rfl | rfl | rfl | rfl
  all_goals
   refine FI (PMr [1]) Tryz.func186 Tryz.ntmps186 [(1, 28, [], [], (lin [] [0, 1, 2, 3, 4, 5, 6, 7, 8, 9, 10, 11, 12, 13, 14, 15, 16, 17, 18, 19, 20, 21, 22, 23, 24, 25, 26, 27]))] rfl rfl ?_
   (have hWf := w6 @DPNode.enc_eq @xQ @g1 @g2 @g3 @g4; repeat' (first | refine zS ?_ | refine zI ?_ ?_ | ((with_reducible apply xc); refine zG (yb s hs _ _) ?_) | ((with_reducible apply xl); refine xi (yb s hs _ _) ?_) | refine zK (xr s hs) ?_ | exact zF0 | refine zD fun hb => ?_ | exact zC | refine zT ?_ | fail))
   all_goals exact sB (by unfold y7; first | (simp_all; done) | grind)
theorem l04P_L (xs : List DPNode) (hl : xs.length <= 1048576) (kind n : Int) (s : ByteArray) (hs : s.size <= maxLen) (a b : Int) (l : List Int) (hkl : l.length <= 1048576) : FCon Tryz.prog 186 [.ag [.sl 4 (xs.map DPNode.enc)], .ag (DPNode.mk kind n s (a :: b :: l)).enc] (fun r _ => r = .s (.bool (y7 false ⟨kind, n, s, (a :: b :: l)⟩))) := by
 have g1 : (((l.length + 1 + 1 : Nat) : Int) == 1) = false := by simp; omega
 rcases (show (kind < 1 \/ 6 < kind) \/ kind = 1 \/ kind = 2 \/ kind = 3 \/ kind = 4 \/ kind = 5 \/ kind = 6 by omega) with hr | hin
 ·have e1 : (kind == 1) = false := by simp; omega
  have e2 : (kind == 2) = false := by simp; omega
  have e3 : (kind == 3) = false := by simp; omega
  have e4 : (kind == 4) = false := by simp; omega
  have e5 : (kind == 5) = false := by simp; omega
  have e6 : (kind == 6) = false := by simp; omega
  rw [ut (by exact hr)]
  refine FI (PMr [1]) Tryz.func186 Tryz.ntmps186 [(1, 28, [], [], (lin [] [0, 1, 2, 3, 4, 5, 6, 7, 8, 9, 10, 11, 12, 13, 14, 15, 16, 17, 18, 19, 20, 21, 22, 23, 24, 25, 26, 27]))] rfl rfl ?_
  (have hWf := w9 @DPNode.enc_eq @xQ @g1 @e1 @e2 @e3 @e4 @e5 @e6; repeat' (first | refine zS ?_ | refine zI ?_ ?_ | exact zF0 | refine zD fun hb => ?_ | exact zC | refine zT ?_ | fail))
 ·rcases hin with rfl | rfl | rfl | rfl | rfl | rfl
  all_goals
   refine FI (PMr [1]) Tryz.func186 Tryz.ntmps186 [(1, 28, [], [], (lin [] [0, 1, 2, 3, 4, 5, 6, 7, 8, 9, 10, 11, 12, 13, 14, 15, 16, 17, 18, 19, 20, 21, 22, 23, 24, 25, 26, 27]))] rfl rfl ?_
   (have hWf := w3 @DPNode.enc_eq @xQ @g1; repeat' (first | refine zS ?_ | refine zI ?_ ?_ | ((with_reducible apply xc); refine zG (yb s hs _ _) ?_) | ((with_reducible apply xl); refine xi (yb s hs _ _) ?_) | refine zK (xr s hs) ?_ | exact zF0 | refine zD fun hb => ?_ | exact zC | refine zT ?_ | fail))
   all_goals exact sB (by unfold y7; first | (simp_all; done) | grind)
theorem xaf (xs : List DPNode) (x : DPNode) (hx : x.ok) (hl : xs.length <= 1048576) (hkl : x.kids.length <= 1048576) : FCon Tryz.prog 186 [.ag [.sl 4 (xs.map DPNode.enc)], .ag x.enc] (fun r _ => r = .s (.bool (zF xs x))) := by
 obtain ⟨kind, n, s, kids⟩ := x
 obtain ⟨-, -, hs, -⟩ := hx
 dsimp only at hkl hs
 show FCon Tryz.prog 186 _ (fun r _ => r = .s (.bool (y7 (vD xs kids) ⟨kind, n, s, kids⟩)))
 match kids, hkl with
 | [], _ => exact l04P_N xs hl kind n s hs
 | [z], _ =>
  by_cases h0 : z < 0
  ·rw [U2 xs [z] rfl (.inl h0)]
   exact l04P_B xs hl kind n s hs z (decide_eq_false (by omega))
  ·by_cases h1 : (xs.length : Int) <= z
   ·rw [U2 xs [z] rfl (.inr h1)]
    exact l04P_O xs hl kind n s hs z (decide_eq_true (by omega)) (decide_eq_false (by omega))
   ·have hk : z.toNat < xs.length := by omega
    obtain ⟨k, rfl⟩ : ∃ k : Nat, z = (k : Int) := ⟨z.toNat, by omega⟩
    have hk : k < xs.length := by omega
    rw [V2 xs [(k : Int)] rfl k hk rfl]
    exact l04P_K xs hl kind n s hs k hk
 | a :: b :: l, hkl =>
  rw [V3 _ _ (by simp)]
  exact l04P_L xs hl kind n s hs a b l (by simp at hkl; omega)
theorem UF (xs : List DPNode) (hl : xs.length <= 1000000000) (hks : ∀ x ∈ xs, x.kids.length <= 1000000000) :
  ∀ (N m : Nat), xs.length - m <= N -> m <= 2000000000 -> FCon Tryz.prog 187 [.ag [.sl 4 (xs.map DPNode.enc)], .s (.int .i64 m)] (fun r _ => r = .s (.int .i64 (endZ (pEnd (yY xs) N m)))) := by
 have hlen : (yY xs).length = xs.length := by simp
 have out : ∀ (N m : Nat), xs.length <= m -> m <= 2000000000 -> FCon Tryz.prog 187 [.ag [.sl 4 (xs.map DPNode.enc)], .s (.int .i64 m)] (fun r _ => r = .s (.int .i64 (endZ (pEnd (yY xs) N m)))) := by
  intro N m hm hm2
  rw [vW _ _ _ (by rw [hlen]; exact hm)]
  refine FI PM Tryz.func187 Tryz.ntmps187 [] rfl rfl ?_
  (have hWf := f0; repeat' (first | refine zS ?_ | refine zI ?_ ?_ | exact zF0 | refine zD fun hb => ?_ | exact zC | refine zT ?_ | fail))
  all_goals (try rfl)
 intro N
 induction N with
 | zero => intro m hm hm2; exact out 0 m (by omega) hm2
 | succ N ih =>
  intro m hm hm2
  by_cases hlt : m < xs.length
  ·have hx := xh DPNode.enc xs m hlt
   have he := DPNode.enc_eq xs[m]
   have hkl := hks _ (List.getElem_mem hlt)
   rw [vK _ _ _ (by rw [hlen]; exact hlt)]
   have hka : (yY xs)[m]'(by rw [hlen]; exact hlt) = xs[m].kids := by simp [yY]
   rw [hka]
   obtain ⟨R, hR⟩ : ∃ R, yM (pEnd (yY xs) N) xs[m].kids (m + 1) = R := ⟨_, rfl⟩
   rw [hR]
   refine FI PM Tryz.func187 Tryz.ntmps187 [] rfl rfl ?_
   (have hWf := w2 @hx @he; repeat' (first | refine zS ?_ | refine zI ?_ ?_ | exact zF0 | refine zD fun hb => ?_ | exact zC | refine zT ?_ | fail))
   refine xk (fun n σ => ∃ j cur : Nat, j <= xs[m].kids.length /\ n = xs[m].kids.length - j /\ m < cur /\ cur <= 2000000000 /\ yM (pEnd (yY xs) N) (xs[m].kids.drop j) cur = R /\ σ.t 2 = .bx 2 0 /\ σ.b 2 = some (.box [.sl 4 (xs.map DPNode.enc)]) /\ σ.t 5 = .s (.int .i64 cur) /\ σ.t 20 = yX xs[m].kids /\ σ.t 21 = .s (.int .i64 xs[m].kids.length) /\ σ.t 22 = .s (.int .i64 j)) xs[m].kids.length ⟨0, m + 1, by omega, by omega, by omega, by omega, by rw [List.drop_zero]; exact hR, ?_⟩ ?_
   ·simp only [go_sem, simprocAttr]
    simp
   ·rintro n σ ⟨j, cur, hj, rfl, hcur, hc2, hp, h2, hb2, h5, h20, h21, h22⟩ K' hK
    by_cases hjl : j < xs[m].kids.length
    ·have gx := xh iE xs[m].kids j hjl
     rw [YD _ j hjl, uI] at hp
     by_cases hkc : xs[m].kids[j] = (cur : Int)
     ·have hw : ym (yY xs) N xs[m].kids[j] cur = pEnd (yY xs) N cur := by unfold ym; rw [if_pos hkc]
      rw [hw] at hp
      have hkn : ((cur : Int) != (cur : Int)) = false := bne_self_eq_false _
      have hcc := ih cur (by omega) hc2
      cases hq : pEnd (yY xs) N cur with
      | none =>
       rw [hq] at hcc hp
       have hcc : FCon Tryz.prog 187 [.ag [.sl 4 (xs.map DPNode.enc)], .s (.int .i64 cur)] (fun r _ => r = .s (.int .i64 (-1))) := hcc
       (have hWf := w10 @h2 @hb2 @h5 @h20 @h21 @h22 @gx @xQ @hkc @hkn; repeat' (first | refine zS ?_ | refine zI ?_ ?_ | refine zK (hcc) ?_ | exact zF0 | refine zD fun hb => ?_ | exact zC | refine zT ?_ | fail))
       all_goals (rw [<- hp]; rfl)
      | some e1 =>
       rw [hq] at hcc hp
       have hcc : FCon Tryz.prog 187 [.ag [.sl 4 (xs.map DPNode.enc)], .s (.int .i64 cur)] (fun r _ => r = .s (.int .i64 (e1 : Int))) := hcc
       have hbd := XI _ _ _ _ hq
       rw [hlen] at hbd
       (have hWf := w10 @h2 @hb2 @h5 @h20 @h21 @h22 @gx @xQ @hkc @hkn; repeat' (first | refine zS ?_ | refine zI ?_ ?_ | refine zK (hcc) ?_ | exact zF0 | refine zD fun hb => ?_ | exact zC | refine zT ?_ | fail))
       refine hK (xs[m].kids.length - (j + 1)) _ (by omega) ⟨j + 1, e1, by omega, rfl, by omega, by omega, hp, ?_⟩
       simp only [go_sem, simprocAttr, h2, hb2, h5, h20, h21, h22]
       simp
     ·have hw : ym (yY xs) N xs[m].kids[j] cur = none := by unfold ym; rw [if_neg hkc]
      rw [hw] at hp
      have hne : (xs[m].kids[j] != (cur : Int)) = true := by simpa using hkc
      (have hWf := w9 @h2 @hb2 @h5 @h20 @h21 @h22 @gx @xQ @hne; repeat' (first | refine zS ?_ | refine zI ?_ ?_ | exact zF0 | refine zD fun hb => ?_ | exact zC | refine zT ?_ | fail))
      all_goals (rw [<- hp]; rfl)
    ·obtain rfl : j = xs[m].kids.length := by omega
     rw [List.drop_eq_nil_of_le (Nat.le_refl _)] at hp
     (have hWf := w6 @h2 @hb2 @h5 @h20 @h21 @h22; repeat' (first | refine zS ?_ | refine zI ?_ ?_ | exact zF0 | refine zD fun hb => ?_ | exact zC | refine zT ?_ | fail))
     rw [<- hp]; rfl
  ·exact out (N + 1) m (by omega) hm2
theorem QG (xs : List DPNode) (ho : ∀ x ∈ xs, x.ok) (hs : smS DPNode.sm xs) : FCon Tryz.prog 114 [.ag [.sl 4 (xs.map DPNode.enc)]] (fun r _ => r = .s (.bool (patM xs))) := by
 have hl := hs.1
 have hkl : ∀ x ∈ xs, x.kids.length <= 1048576 := fun x hx => (hs.2 x hx).2.1
 by_cases h600 : 1 <= xs.length /\ xs.length <= 600
 ·obtain ⟨h6, h7⟩ := h600
  refine FI PM Tryz.func114 Tryz.ntmps114 [(11, 21, [], [], (lin [] [0, 1, 2, 3, 4, 5, 6, 7, 8, 9, 10, 11, 12, 13, 14, 15, 16, 17, 18, 19, 20])), (14, 5, [], [], (lin [] [0, 1, 2, 3, 4]))] rfl rfl ?_
  (have hWf := f0; repeat' (first | refine zS ?_ | refine zI ?_ ?_ | exact zF0 | refine zD fun hb => ?_ | exact zC | refine zT ?_ | fail))
  refine xk (fun n σ => ∃ k : Nat, k <= xs.length /\ n = xs.length - k /\ σ.t 1 = .bx 1 0 /\ σ.b 1 = some (.box [.sl 4 (xs.map DPNode.enc)]) /\ σ.t 17 = .sl 4 (xs.map DPNode.enc) /\ σ.t 18 = .s (.int .i64 xs.length) /\ σ.t 19 = .s (.int .i64 k) /\ ∀ j (hj : j < xs.length), j < k -> yA xs j hj = true) xs.length ⟨0, by omega, by omega, ?_⟩ ?_
  ·simp only [go_sem, simprocAttr, Int.natCast_zero]
   simp
  ·rintro n σ ⟨k, hk, rfl, h1, hb1, h17, h18, h19, hg⟩ K' hK
   by_cases hlt : k < xs.length
   ·have hx := xh DPNode.enc xs k hlt
    have he := DPNode.enc_eq xs[k]
    have hmem := List.getElem_mem hlt
    have hn := xaf xs xs[k] (ho _ hmem) hl (hkl _ hmem)
    cases hpn : zF xs xs[k] with
    | false =>
     rw [hpn] at hn
     (have hWf := w7 @h1 @hb1 @h17 @h18 @h19 @hx @he; repeat' (first | refine zS ?_ | refine zI ?_ ?_ | refine zK (hn) ?_ | exact zF0 | refine zD fun hb => ?_ | exact zC | refine zT ?_ | fail))
     all_goals exact sB (Yf hlt (Zu hlt hpn)).symm
    | true =>
     rw [hpn] at hn
     (have hWf := w7 @h1 @hb1 @h17 @h18 @h19 @hx @he; repeat' (first | refine zS ?_ | refine zI ?_ ?_ | refine zK (hn) ?_ | exact zF0 | refine zD fun hb => ?_ | exact zC | refine zT ?_ | fail))
     refine xk (fun n σ => ∃ j : Nat, j <= k /\ n = k - j /\ σ.t 1 = .bx 1 0 /\ σ.b 1 = some (.box [.sl 4 (xs.map DPNode.enc)]) /\ σ.t 3 = .s (.int .i64 k) /\ σ.t 4 = .bx 4 0 /\ σ.b 4 = some (.box [.s (.int .i64 xs[k].kind), .s (.int .i64 xs[k].n), .s (.string xs[k].s), .sl 1 (xs[k].kids.map iE)]) /\ σ.t 5 = .s (.int .i64 j) /\ σ.t 17 = .sl 4 (xs.map DPNode.enc) /\ σ.t 18 = .s (.int .i64 xs.length) /\ σ.t 19 = .s (.int .i64 k) /\ ∀ i (hi : i < j) (hk : i < xs.length), dupB xs[i] xs[k] = false) k ⟨0, by omega, by omega, ?_⟩ ?_
     ·simp only [go_sem, simprocAttr, h1, hb1, h17, h18, h19, Int.natCast_zero]
      simp
     ·rintro n σ ⟨j, hj, rfl, g1, gb1, g3, g4, gb4, g5, g17, g18, g19, hno⟩ K'' hK''
      by_cases hjl : j < k
      ·have gx := xh DPNode.enc xs j (by omega)
       have ge := DPNode.enc_eq (xs[j]'(by omega))
       (have hWf := w11 @g1 @gb1 @g3 @g4 @gb4 @g5 @g17 @g18 @g19 @gx @ge; repeat' (first | refine zS ?_ | refine zI ?_ ?_ | exact zF0 | refine zD fun hb => ?_ | exact zC | refine zT ?_ | fail))
       ·exact fun h => ⟨h, h, by omega, by omega⟩
       ·exact fun h => ⟨h, h, by omega, by omega⟩
       ·refine sB (Yf hlt (Zv hlt hjl ?_)).symm
        unfold dupB
        rw [hb.1.1, hb.1.2, toL_inj hb.2]; simp
       ·refine hK'' (k - (j + 1)) _ (by omega) ⟨j + 1, by omega, rfl, ?_⟩
        simp only [go_sem, simprocAttr, g1, gb1, g3, g4, gb4, g17, g18, g19, Int.natCast_succ]
        intro i hi hik
        rcases Nat.lt_or_ge i j with q | q
        ·exact hno i q hik
        ·obtain rfl : i = j := by omega
         unfold dupB
         rcases hb with (hb | hb) | hb
         ·rw [show (xs[k].kind == 2) = false by simpa using hb]; rfl
         ·rw [show (xs[i].kind == 2) = false by simpa using hb]; simp
         ·rw [decide_eq_false (fun e => hb (by rw [e]))]; simp
      ·obtain rfl : j = k := by omega
       (have hWf := w9 @g1 @gb1 @g3 @g4 @gb4 @g5 @g17 @g18 @g19; repeat' (first | refine zS ?_ | refine zI ?_ ?_ | exact zF0 | refine zD fun hb => ?_ | exact zC | refine zT ?_ | fail))
       refine hK (xs.length - (j + 1)) _ (by omega) ⟨j + 1, by omega, rfl, ?_⟩
       simp only [go_sem, simprocAttr, g1, gb1, g17, g18, g19, Int.natCast_succ]
       exact YG hg hlt (UR hlt hpn fun i hi => hno i hi (by omega))
   ·obtain rfl : k = xs.length := by omega
    (have hWf := w5 @h1 @hb1 @h17 @h18 @h19; repeat' (first | refine zS ?_ | refine zI ?_ ?_ | ((with_reducible apply xc); refine zG (UF xs (by omega) (fun x hx => by have := hkl x hx; omega) xs.length 0 (by omega) (by omega)) ?_) | refine zU (UF xs (by omega) (fun x hx => by have := hkl x hx; omega) xs.length 0 (by omega) (by omega)) ?_ | exact zF0 | refine zD fun hb => ?_ | exact zC | refine zT ?_ | fail))
    refine sB ?_
    have hall : (List.finRange xs.length).all (fun i => yA xs i.1 i.2) = true := W9.2 fun i => hg i.1 i.2 i.2
    unfold patM
    rw [hall, decide_eq_true h6, decide_eq_true h7, ZL]
    unfold xR
    rw [Xe]; rfl
 ·have hb : patM xs = false := by
   unfold patM
   by_cases q : 1 <= xs.length
   ·rw [decide_eq_false (p := xs.length <= 600) (by omega)]; simp
   ·rw [decide_eq_false q]; simp
  rw [hb]
  refine FI PM Tryz.func114 Tryz.ntmps114 [(11, 21, [], [], (lin [] [0, 1, 2, 3, 4, 5, 6, 7, 8, 9, 10, 11, 12, 13, 14, 15, 16, 17, 18, 19, 20])), (14, 5, [], [], (lin [] [0, 1, 2, 3, 4]))] rfl rfl ?_
  by_cases q : xs.length < 1
  ·have e1 : decide ((xs.length : Int) < 1) = true := decide_eq_true (by omega)
   (have hWf := w1 @e1; repeat' (first | refine zS ?_ | refine zI ?_ ?_ | exact zF0 | refine zD fun hb => ?_ | exact zC | refine zT ?_ | fail))
  ·have e1 : decide ((xs.length : Int) < 1) = false := decide_eq_false (by omega)
   have e2 : decide ((xs.length : Int) > 600) = true := decide_eq_true (by omega)
   (have hWf := w2 @e1 @e2; repeat' (first | refine zS ?_ | refine zI ?_ ?_ | exact zF0 | refine zD fun hb => ?_ | exact zC | refine zT ?_ | fail))
theorem Qu (xs : List DPNode) (ho : ∀ x ∈ xs, x.ok) (hs : smS DPNode.sm xs) : FCon Tryz.prog 46 [.ag [.sl 4 (xs.map DPNode.enc)]] (fun r _ => r = .s (.bool (patM xs))) := by
 have hl := hs.1
 have hkl : ∀ x ∈ xs, x.kids.length <= 1048576 := fun x hx => (hs.2 x hx).2.1
 refine FI PM Tryz.func46 Tryz.ntmps46 [] rfl rfl ?_
 (refine xA ?_; simp only [go_sem, simprocAttr]; (have hWf := f0; repeat' (first | refine zY ?_ | refine zI ?_ ?_ | exact zF1 | refine zD fun hb => ?_ | exact zC | refine zT ?_ | fail)))
 refine ze 1 (.box [.sl 4 (xs.map DPNode.enc)]) (by simp only [go_sem, simprocAttr]) rfl ?_
 (have hWf := f0; repeat' (first | refine zS ?_ | refine zI ?_ ?_ | refine zK (yn xs.length 1 600) ?_ | ((with_reducible apply xc); refine zG (Ww xs ho (by omega) (fun x hx => by have := hkl x hx; omega)) ?_) | refine zU (Ww xs ho (by omega) (fun x hx => by have := hkl x hx; omega)) ?_ | exact zF0 | refine zD fun hb => ?_ | exact zC | refine zT ?_ | fail))
 ·refine sB ?_
  unfold patM
  rcases hb with (hb | hb) | hb
  ·rw [decide_eq_false (by omega : ¬ 1 <= xs.length)]; rfl
  ·rw [decide_eq_false (by omega : ¬ xs.length <= 600)]; simp
  ·rw [hb]; simp
 ·obtain ⟨⟨h6, h7⟩, hord⟩ : (1 <= xs.length /\ xs.length <= 600) /\ xR (yY xs) = true := by
   exact ⟨⟨by omega, by omega⟩, hb.2⟩
  refine xk (fun n σ => ∃ (k : Nat) (ns : List ByteArray), k <= xs.length /\ n = xs.length - k /\ NamesAt xs k ns /\ σ.t 1 = .pt [.sl 4 (xs.map DPNode.enc)] /\ σ.t 3 = .bs 19 1 ns.length /\ σ.b 19 = some (.arr 9 1 (ns.map stE)) /\ σ.t 21 = .sl 4 (xs.map DPNode.enc) /\ σ.t 22 = .s (.int .i64 xs.length) /\ σ.t 23 = .s (.int .i64 k) /\ ∀ j (hj : j < xs.length), j < k -> yA xs j hj = true) xs.length ⟨0, [], by omega, by omega, NamesAt.zero xs, ?_⟩ ?_
  ·simp only [go_sem, simprocAttr, Int.natCast_zero]
   simp
  ·rintro n σ ⟨k, ns, hk, rfl, hns, h1, h3, hb3, h21, h22, h23, hg⟩ K' hK
   have hnl := hns.1
   by_cases hlt : k < xs.length
   ·have hx := xh DPNode.enc xs k hlt
    have he := DPNode.enc_eq xs[k]
    have hmem := List.getElem_mem hlt
    have hn := QB xs xs[k] (ho _ hmem) (hkl _ hmem) (fun h1 => order_inP hord k hlt h1)
    cases hpn : zF xs xs[k] with
    | false =>
     rw [hpn] at hn
     (have hWf := w9 @h1 @h3 @hb3 @h21 @h22 @h23 @hx @he @xd; repeat' (first | refine zS ?_ | refine zI ?_ ?_ | refine zK (hn) ?_ | refine zK (zk ns xs[k].s) ?_ | exact zF0 | refine zD fun hb => ?_ | exact zC | refine zT ?_ | fail))
     all_goals exact sB (Yf hlt (Zu hlt hpn)).symm
    | true =>
     rw [hpn] at hn
     cases h2 : (xs[k].kind == 2) with
     | false =>
      have h2' : xs[k].kind ≠ 2 := by simpa using h2
      (have hWf := w10 @h1 @h3 @hb3 @h21 @h22 @h23 @hx @he @h2 @xd; repeat' (first | refine zS ?_ | refine zI ?_ ?_ | refine zK (hn) ?_ | refine zK (zk ns xs[k].s) ?_ | exact zF0 | refine zD fun hb => ?_ | exact zC | refine zT ?_ | fail))
      refine hK (xs.length - (k + 1)) _ (by omega) ⟨k + 1, ns, by omega, rfl, hns.skip hlt h2', ?_⟩
      simp only [go_sem, simprocAttr, h1, h3, hb3, h21, h22, Int.natCast_succ]
      exact YG hg hlt (hns.none hlt hpn fun h => absurd h h2')
     | true =>
      have h2' : xs[k].kind = 2 := by simpa using h2
      cases hi : inL xs[k].s ns with
      | true =>
       (have hWf := w11 @h1 @h3 @hb3 @h21 @h22 @h23 @hx @he @h2 @hi @xd; repeat' (first | refine zS ?_ | refine zI ?_ ?_ | refine zK (hn) ?_ | refine zK (zk ns xs[k].s) ?_ | exact zF0 | refine zD fun hb => ?_ | exact zC | refine zT ?_ | fail))
       all_goals exact sB (Yf hlt (hns.dup hlt h2' hi)).symm
      | false =>
       (have hWf := w11 @h1 @h3 @hb3 @h21 @h22 @h23 @hx @he @h2 @hi @xd; repeat' (first | refine zS ?_ | refine zI ?_ ?_ | refine zK (hn) ?_ | refine zK (zk ns xs[k].s) ?_ | exact zF0 | refine zD fun hb => ?_ | exact zC | refine zT ?_ | fail))
       refine hK (xs.length - (k + 1)) _ (by omega) ⟨k + 1, ns ++ [xs[k].s], by omega, rfl, hns.add hlt h2', ?_⟩
       simp only [go_sem, simprocAttr, h1, h3, hb3, h21, h22, Int.natCast_succ, List.map_append, List.length_append, yH]
       exact YG hg hlt (hns.none hlt hpn fun _ => hi)
   ·obtain rfl : k = xs.length := by omega
    (have hWf := w6 @h1 @h3 @hb3 @h21 @h22 @h23; repeat' (first | refine zS ?_ | refine zI ?_ ?_ | exact zF0 | refine zD fun hb => ?_ | exact zC | refine zT ?_ | fail))
    refine sB ?_
    have hall : (List.finRange xs.length).all (fun i => yA xs i.1 i.2) = true := W9.2 fun i => hg i.1 i.2 i.2
    unfold patM
    rw [hall, decide_eq_true h6, decide_eq_true h7, hord]; rfl
end Go.Proofs.YtgcdbmcoendcdaaGreat
namespace Go.Proofs.YtgcdbmcoendcdaaGreat
open Arb
structure PI where
 kind : Int
 n : Int
 s : ByteArray
abbrev PT := Arb PI
def PI.node (a : PI) (l : List Int) : DPNode := ⟨a.kind, a.n, a.s, l⟩
theorem patM_len {xs : List DPNode} (h : patM xs = true) : 1 <= xs.length /\ xs.length <= 600 := by
 unfold patM at h
 simp only [Bool.and_eq_true, decide_eq_true_eq] at h
 exact h.1.1
theorem patM_kids {xs : List DPNode} (h : patM xs = true) : ∀ x ∈ xs, x.kids.length <= 2 := by
 intro x hx
 obtain ⟨k, hk, rfl⟩ := List.getElem_of_mem hx
 unfold patM at h
 simp only [Bool.and_eq_true, decide_eq_true_eq] at h
 have := W9.1 h.1.2 ⟨k, hk⟩
 unfold yA at this
 simp only [Bool.and_eq_true] at this
 have N := this.1
 unfold zF y7 at N
 split at N
 ·simp only [Bool.and_eq_true, beq_iff_eq] at N; have := N.1.1; omega
 split at N
 ·simp only [Bool.and_eq_true, beq_iff_eq] at N; have := N.1.1; omega
 split at N
 ·simp only [Bool.and_eq_true, beq_iff_eq] at N; have := N.1.1; omega
 split at N
 ·simp only [Bool.and_eq_true, beq_iff_eq] at N; have := N.1.1; omega
 split at N
 ·simp only [Bool.and_eq_true] at N
  have := N.2
  unfold yF at this
  split at this
  ·simp only [beq_iff_eq] at this; omega
  ·split at this
   ·simp only [Bool.and_eq_true, beq_iff_eq] at this; omega
   ·simp only [Bool.and_eq_true, decide_eq_true_eq] at this; omega
 ·cases N
end Go.Proofs.YtgcdbmcoendcdaaGreat
namespace Go.Proofs.YtgcdbmcoendcdaaGreat
attribute [local go_sem] List.length_set List.set_set
open Go.RowKit Go.ChangeShapes Go.WideShapes
structure MNode where
 kind : Int
 at_ : Int
 n : Int
 s : ByteArray
 kids : List Int
 pats : List MPat
def MNode.enc (x : MNode) : List D := [.s (.int .i64 x.kind), .s (.int .i64 x.at_), .s (.int .i64 x.n), .s (.string x.s), .sl 1 (x.kids.map iE), .sl 1 (x.pats.map MPat.enc)]
theorem MNode.enc_eq (x : MNode) : x.enc = [.s (.int .i64 x.kind), .s (.int .i64 x.at_), .s (.int .i64 x.n), .s (.string x.s), .sl 1 (x.kids.map iE), .sl 1 (x.pats.map MPat.enc)] := rfl
def MNode.own (x : MNode) : List D := [.s (.int .i64 x.kind), .s (.int .i64 x.at_), .s (.int .i64 x.n), .s (.string x.s), .osl 3 1 (x.kids.map iE), .osl 89 1 (x.pats.map MPat.own)]
theorem MNode.own_eq (x : MNode) : x.own = [.s (.int .i64 x.kind), .s (.int .i64 x.at_), .s (.int .i64 x.n), .s (.string x.s), .osl 3 1 (x.kids.map iE), .osl 89 1 (x.pats.map MPat.own)] := rfl
theorem MNode.frz_eq (x : MNode) : frzL x.own = x.enc := by
 simp only [MNode.own_eq, MNode.enc_eq, frzL, frz, ye WP, ye MPat.frz_eq]
def MNode.ok (x : MNode) : Prop := I64 x.kind /\ I64 x.at_ /\ I64 x.n /\ x.s.size <= maxLen /\ (∀ y ∈ x.kids, I64 y) /\ (∀ y ∈ x.pats, y.ok)
def MNode.sm (x : MNode) : Prop := x.s.size <= 1048576 /\ smS (fun _ : Int => True) x.kids /\ smS MPat.sm x.pats
theorem MNode.pure (x : MNode) : ∀ d ∈ x.own, Pure d := by
 simp only [MNode.own_eq, List.forall_mem_cons, List.not_mem_nil, false_imp_iff, implies_true, and_true]
 exact ⟨.s _, .s _, .s _, .s _, yr Ub _ _ _, yr MPat.pure _ _ _⟩
theorem MNode.pureS (e k : Nat) (xs : List MNode) : Pure (.osl e k (xs.map MNode.own)) = True := eq_true (yr MNode.pure e k xs)
attribute [go_sem] MNode.pureS
theorem MNode.frzS (xs : List MNode) : xJ (xs.map MNode.own) = xs.map MNode.enc := ye MNode.frz_eq xs
attribute [go_sem] MNode.frzS
end Go.Proofs.YtgcdbmcoendcdaaGreat
namespace Go.Proofs.YtgcdbmcoendcdaaGreat
attribute [local go_sem] List.length_set List.set_set
open Go.RowKit Go.ChangeShapes Go.WideShapes
structure MCon where
 name : ByteArray
 has : Bool
 arg : List TyI
def MCon.enc (x : MCon) : List D := [.s (.string x.name), .s (.bool x.has), .sl 3 (x.arg.map TyI.enc)]
theorem MCon.enc_eq (x : MCon) : x.enc = [.s (.string x.name), .s (.bool x.has), .sl 3 (x.arg.map TyI.enc)] := rfl
def MCon.own (x : MCon) : List D := [.s (.string x.name), .s (.bool x.has), .osl 159 3 (x.arg.map TyI.own)]
theorem MCon.own_eq (x : MCon) : x.own = [.s (.string x.name), .s (.bool x.has), .osl 159 3 (x.arg.map TyI.own)] := rfl
theorem MCon.frz_eq (x : MCon) : frzL x.own = x.enc := by
 simp only [MCon.own_eq, MCon.enc_eq, frzL, frz, ye TyI.frz_eq]
def MCon.ok (x : MCon) : Prop := x.name.size <= maxLen /\ True /\ (∀ y ∈ x.arg, y.ok)
def MCon.sm (x : MCon) : Prop := x.name.size <= 1048576 /\ smS TyI.sm x.arg
theorem MCon.pure (x : MCon) : ∀ d ∈ x.own, Pure d := by
 simp only [MCon.own_eq, List.forall_mem_cons, List.not_mem_nil, false_imp_iff, implies_true, and_true]
 exact ⟨.s _, .s _, yr TyI.pure _ _ _⟩
theorem MCon.pureS (e k : Nat) (xs : List MCon) : Pure (.osl e k (xs.map MCon.own)) = True := eq_true (yr MCon.pure e k xs)
attribute [go_sem] MCon.pureS
end Go.Proofs.YtgcdbmcoendcdaaGreat
namespace Go.Proofs.YtgcdbmcoendcdaaGreat
attribute [local go_sem] List.length_set List.set_set
open Go.RowKit Go.ChangeShapes Go.WideShapes
structure MType where
 name : ByteArray
 params : Int
 cons : List MCon
def MType.enc (x : MType) : List D := [.s (.string x.name), .s (.int .i64 x.params), .sl 3 (x.cons.map MCon.enc)]
theorem MType.enc_eq (x : MType) : x.enc = [.s (.string x.name), .s (.int .i64 x.params), .sl 3 (x.cons.map MCon.enc)] := rfl
def MType.own (x : MType) : List D := [.s (.string x.name), .s (.int .i64 x.params), .osl 68 3 (x.cons.map MCon.own)]
theorem MType.own_eq (x : MType) : x.own = [.s (.string x.name), .s (.int .i64 x.params), .osl 68 3 (x.cons.map MCon.own)] := rfl
theorem MType.frz_eq (x : MType) : frzL x.own = x.enc := by
 simp only [MType.own_eq, MType.enc_eq, frzL, frz, ye MCon.frz_eq]
def MType.ok (x : MType) : Prop := x.name.size <= maxLen /\ I64 x.params /\ (∀ y ∈ x.cons, y.ok)
def MType.sm (x : MType) : Prop := x.name.size <= 1048576 /\ smS MCon.sm x.cons
theorem MType.pure (x : MType) : ∀ d ∈ x.own, Pure d := by
 simp only [MType.own_eq, List.forall_mem_cons, List.not_mem_nil, false_imp_iff, implies_true, and_true]
 exact ⟨.s _, .s _, yr MCon.pure _ _ _⟩
theorem MType.pureS (e k : Nat) (xs : List MType) : Pure (.osl e k (xs.map MType.own)) = True := eq_true (yr MType.pure e k xs)
attribute [go_sem] MType.pureS
theorem MType.frzS (xs : List MType) : xJ (xs.map MType.own) = xs.map MType.enc := ye MType.frz_eq xs
attribute [go_sem] MType.frzS
end Go.Proofs.YtgcdbmcoendcdaaGreat
namespace Go.Proofs.YtgcdbmcoendcdaaGreat
open Go.RowKit Go.ChangeShapes Go.WideShapes
structure MProgram where
 types : List MType
 nodes : List MNode
def MProgram.enc (x : MProgram) : List D := [.sl 3 (x.types.map MType.enc), .sl 6 (x.nodes.map MNode.enc)]
theorem MProgram.enc_eq (x : MProgram) : x.enc = [.sl 3 (x.types.map MType.enc), .sl 6 (x.nodes.map MNode.enc)] := rfl
def MProgram.own (x : MProgram) : List D := [.osl 63 3 (x.types.map MType.own), .osl 55 6 (x.nodes.map MNode.own)]
theorem MProgram.own_eq (x : MProgram) : x.own = [.osl 63 3 (x.types.map MType.own), .osl 55 6 (x.nodes.map MNode.own)] := rfl
def MProgram.ok (x : MProgram) : Prop := (∀ y ∈ x.types, y.ok) /\ (∀ y ∈ x.nodes, y.ok)
def MProgram.sm (x : MProgram) : Prop := smS MType.sm x.types /\ smS MNode.sm x.nodes
end Go.Proofs.YtgcdbmcoendcdaaGreat
namespace Go.Proofs.YtgcdbmcoendcdaaGreat
def arI (k : Int) : Int :=
 if k = 1 \/ k = 2 \/ k = 3 \/ k = 12 then 0 else if k = 5 \/ k = 14 \/ k = 16 \/ k = 17 then 1
 else if k = 6 \/ k = 7 \/ k = 8 \/ k = 10 \/ k = 11 \/ k = 15 \/ k = 18 \/ k = 19 then 2 else if k = 9 then 3 else -1
def kidK (nodes : List MNode) (l : List Int) (kd : Int) : Bool := match l with
 | k :: _ => decide (0 <= k) && (match nodes[k.toNat]? with | some x => x.kind == kd | none => false)
 | [] => false
theorem XF {nodes : List MNode} {l : List Int} (h : 0 < l.length) {k : Nat} (hk : k < nodes.length) (e : l[0] = (k : Int)) (kd : Int) : kidK nodes l kd = (nodes[k].kind == kd) := by
 match l, h with
 | z :: r, _ =>
  have hz : z = (k : Int) := e
  subst hz
  simp only [kidK, Int.toNat_natCast, List.getElem?_eq_getElem hk]
  rw [decide_eq_true (by omega)]; rfl
def xG (nodes : List MNode) (n : MNode) (nb : Bool) : Bool :=
 if n.kind = 1 then decide (0 <= n.n) && decide (n.n <= 4611686018427387903) && n.s.toList.isEmpty
 else if n.kind = 2 then true
 else if n.kind = 3 \/ n.kind = 5 \/ n.kind = 7 \/ n.kind = 15 then nb
 else if n.kind = 8 then nb && kidK nodes n.kids 5
 else if n.kind = 10 then Xh n.s
 else if n.kind = 4 then yF n.s n.kids.length (decide (n.kids.length = 1) && kidK nodes n.kids 11)
 else if n.kind = 13 then n.s.toList.isEmpty && decide (1 <= n.pats.length) && decide (n.kids.length = n.pats.length + 1)
 else decide (1 <= n.kind) && decide (n.kind <= 19) && n.s.toList.isEmpty
def ya (nodes : List MNode) (n : MNode) (nb : Bool) : Bool :=
 decide (0 <= n.at_) && (decide (arI n.kind < 0) || decide ((n.kids.length : Int) = arI n.kind)) && (decide (n.kind = 13) || decide (n.pats.length = 0)) && (decide (n.kind = 1) || decide (n.kind = 3) || decide (n.n = 0)) && xG nodes n nb
def xT (n : MNode) : Bool := yl n.s && decide (n.n = 0)
def inB (nodes : List MNode) (l : List Int) : Bool := l.all fun k => decide (0 <= k) && decide (k < (nodes.length : Int))
def xO (nodes : List MNode) (n : MNode) : Bool := inB nodes n.kids && ya nodes n (xT n) && n.pats.all fun q => patM q.nodes
def yj (params : Int) (c : MCon) : Bool := conM c.name.data.toList && (if c.has = true then wZ c.arg && c.arg.all (fun x => !(x.name.toList.isEmpty && decide (params <= x.v))) else decide (c.arg.length = 0))
def zW (t : MType) : Bool := yl t.name && decide (0 <= t.params) && decide (t.params <= 2) && decide (1 <= t.cons.length) && decide (t.cons.length <= 8) && t.cons.all (yj t.params)
abbrev xN (nodes : List MNode) : List (List Int) := nodes.map fun n => n.kids
def yE (p : MProgram) : Bool := decide (1 <= p.nodes.length) && decide (p.nodes.length <= 600) && decide (p.types.length <= 8) && p.types.all zW && p.nodes.all (xO p.nodes) && xR (xN p.nodes)
end Go.Proofs.YtgcdbmcoendcdaaGreat
namespace Go.Proofs.YtgcdbmcoendcdaaGreat
open Go.RowKit Go.ChangeShapes Go.WideShapes
end Go.Proofs.YtgcdbmcoendcdaaGreat
namespace Go.Proofs.YtgcdbmcoendcdaaGreat
open Go.RowKit
theorem node_kids (w : World) (h : Hp) (hs : Sub h w) (v : Value) (ks : List (List Int)) (hv : KidsAt 6 4 h v ks) (hl : ks.length <= 1000000000) (Bd Od : Nat) (hB : w.cell? ⟨Bd, Od + 1, none⟩ = some v) (i : Nat) (hi : i < ks.length) :
  Calls Tryz.prog 96 #[.int .i64 i, .pointer (some ⟨Bd, Od, none⟩)] w fun e w' => KidQ h w ks[i] e w' := by
 have HV := Lib.hid hv
 obtain ⟨a, c, rfl, hc1, hc2, -⟩ := hv
 unfold maxLen at hc2
 obtain ⟨b, off, rfl, hcell⟩ := HV.out.cell hi
 obtain ⟨v1, hrel, hcs⟩ := hcell i hi
 have c3 := hcs w hs
 have HR := Lib.hid hrel
 clear hcell hcs hrel
 go_enter Tryz.func96, Tryz.ntmps96
 go_wp2_with fail
 go_ret
 exact ⟨_, rfl, HR.out, (by repeat (first | with_reducible exact Below.refl _ _ | with_reducible assumption | with_reducible refine Below.setCell ?_ ?_ _ | with_reducible refine Below.alloc ?_ ?_ _ | with_reducible refine Below.drew ?_ | (with_reducible apply uZ; with_reducible assumption) | exact Nat.le_refl _ | omega | (simp <;> omega)))⟩
theorem Q9 (p : MProgram) (ho : ∀ x ∈ p.nodes, x.ok) (hl : p.nodes.length <= 1000000000) (hks : ∀ x ∈ p.nodes, x.kids.length <= 1000000000) :
  FCon Tryz.prog 95 [.s (.int .i64 p.nodes.length), .fn 96 [.pt p.enc]] (fun r _ => r = .s (.bool (xR (p.nodes.map MNode.kids)))) := by
 have hlen : (p.nodes.map MNode.kids).length = p.nodes.length := List.length_map _
 have := Uy 96 (ent_of Tryz.func96 rfl rfl) (p.nodes.map MNode.kids) p.enc (by rw [hlen]; exact hl) (fun k h => by obtain ⟨x, hx, rfl⟩ := List.mem_map.1 h; exact hks x hx) fun w S up v hv w1 hb m hm => by
  cases hv with
  | @pt _ _ b off ws hc hr =>
   have c1 := (hc 1 _ rfl).2
   have hk := UT (enc := MNode.enc) (kids := MNode.kids) (k := 6) (c := 4) (by decide) (fun _ _ => rfl) (fun _ _ => rfl) (hr 1 _ rfl) (fun x hx => (ho x hx).2.2.2.2.1)
   exact node_kids w1 (hp w) ((Sub.self w).below hb) _ _ hk (by rw [hlen]; exact hl) b off (we hb c1) m hm
 rw [hlen] at this
 exact this
end Go.Proofs.YtgcdbmcoendcdaaGreat
namespace Go.Proofs.YtgcdbmcoendcdaaGreat
open Arb
structure EI where
 kind : Int
 at_ : Int
 n : Int
 s : ByteArray
 pats : List MPat
abbrev ET := Arb EI
def EI.node (a : EI) (l : List Int) : MNode := ⟨a.kind, a.at_, a.n, a.s, l, a.pats⟩
def MNode.inf (x : MNode) : EI := ⟨x.kind, x.at_, x.n, x.s, x.pats⟩
theorem EI.node_inf (x : MNode) : x.inf.node x.kids = x := rfl
inductive EV (a : EI) (l : List ET) : Prop where
 | int : a.kind = 1 -> l = [] -> 0 <= a.n -> a.n <= 4611686018427387903 -> a.s.toList = [] -> EV a l
 | str : a.kind = 2 -> l = [] -> EV a l
 | var : a.kind = 3 -> l = [] -> yl a.s = true -> EV a l
 | con0 : a.kind = 4 -> l = [] -> yF a.s 0 false = true -> EV a l
 | cons (b : EI) (x y : ET) : a.kind = 4 -> l = [.mk b [x, y]] -> b.kind = 11 -> a.s.toList = [58, 58] -> EV a l
 | con1 (x : ET) : a.kind = 4 -> l = [x] -> conM a.s.data.toList = true -> EV a l
 | func (x : ET) : a.kind = 5 -> l = [x] -> yl a.s = true -> EV a l
 | app (x y : ET) : a.kind = 6 -> l = [x, y] -> a.s.toList = [] -> EV a l
 | let_ (x y : ET) : a.kind = 7 -> l = [x, y] -> yl a.s = true -> EV a l
 | rec_ (b : EI) (x y : ET) : a.kind = 8 -> l = [.mk b [x], y] -> b.kind = 5 -> yl a.s = true -> EV a l
 | if_ (x y z : ET) : a.kind = 9 -> l = [x, y, z] -> a.s.toList = [] -> EV a l
 | prim (x y : ET) : a.kind = 10 -> l = [x, y] -> Xh a.s = true -> EV a l
 | pair (x y : ET) : a.kind = 11 -> l = [x, y] -> a.s.toList = [] -> EV a l
 | unit : a.kind = 12 -> l = [] -> a.s.toList = [] -> EV a l
 | mat (x : ET) (r : List ET) : a.kind = 13 -> l = x :: r -> a.pats.length = r.length -> 1 <= r.length -> a.s.toList = [] -> EV a l
 | raise (x : ET) : a.kind = 14 -> l = [x] -> a.s.toList = [] -> EV a l
 | try_ (x y : ET) : a.kind = 15 -> l = [x, y] -> yl a.s = true -> EV a l
 | ref (x : ET) : a.kind = 16 -> l = [x] -> a.s.toList = [] -> EV a l
 | get (x : ET) : a.kind = 17 -> l = [x] -> a.s.toList = [] -> EV a l
 | set (x y : ET) : a.kind = 18 -> l = [x, y] -> a.s.toList = [] -> EV a l
 | seq (x y : ET) : a.kind = 19 -> l = [x, y] -> a.s.toList = [] -> EV a l
structure okN (a : EI) (l : List ET) : Prop where
 v : EV a l
 at0 : 0 <= a.at_
 n0 : a.kind = 1 \/ a.n = 0
 p0 : a.kind = 13 \/ a.pats = []
 pm : ∀ q ∈ a.pats, patM q.nodes = true
abbrev okT (t : ET) : Prop := All okN t
theorem two {α : Type} {l : List α} (h : l.length = 2) : ∃ x y, l = [x, y] := by
 match l, h with
 | [x, y], _ => exact ⟨x, y, rfl⟩
theorem one {α : Type} {l : List α} (h : l.length = 1) : ∃ x, l = [x] := by
 match l, h with
 | [x], _ => exact ⟨x, rfl⟩
theorem three {α : Type} {l : List α} (h : l.length = 3) : ∃ x y z, l = [x, y, z] := by
 match l, h with
 | [x, y, z], _ => exact ⟨x, y, z, rfl⟩
structure NP (nodes : List MNode) (a : EI) (k : List Int) : Prop where
 at0 : 0 <= a.at_
 ar : arI a.kind < 0 \/ (k.length : Int) = arI a.kind
 p0 : a.kind = 13 \/ a.pats = []
 n0 : a.kind = 1 \/ a.kind = 3 \/ a.n = 0
 kd : xG nodes (a.node k) (xT (a.node k)) = true
 pm : ∀ q ∈ a.pats, patM q.nodes = true
theorem VU (nodes : List MNode) (a : EI) (k : List Int) : xO nodes (a.node k) = true ↔ NP nodes a k /\ inB nodes k = true := by
 unfold xO ya EI.node
 simp only [Bool.and_eq_true, Bool.or_eq_true, decide_eq_true_eq, List.all_eq_true]
 constructor
 ·rintro ⟨⟨h1, ⟨⟨⟨h2, h3⟩, h4⟩, h5⟩, h6⟩, h7⟩
  exact ⟨⟨h2, h3, h4.imp_right fun h => List.eq_nil_of_length_eq_zero h, h5.elim (fun h => h.elim .inl fun h => .inr (.inl h)) fun h => .inr (.inr h), h6, h7⟩, h1⟩
 ·rintro ⟨⟨h2, h3, h4, h5, h6, h7⟩, h1⟩
  exact ⟨⟨h1, ⟨⟨⟨h2, h3⟩, h4.imp_right fun h => by rw [h]; rfl⟩, h5.elim (fun h => .inl (.inl h)) fun h => h.elim (fun h => .inl (.inr h)) .inr⟩, h6⟩, h7⟩
theorem wt (s : ByteArray) : s.toList.isEmpty = true ↔ s.toList = [] := List.isEmpty_iff
theorem X4 {nodes : List MNode} {m : Nat} {b : EI} {l : List ET} {r : List ET} (h : At EI.node nodes m (.mk b l)) (kd : Int) : kidK nodes (idxs m (.mk b l :: r)) kd = (b.kind == kd) := by
 obtain ⟨hm, he⟩ := List.getElem?_eq_some_iff.1 h.root
 rw [XF (by simp [idxs]) hm (by simp [idxs]) kd, he]; rfl
theorem shapeM_0 {s : ByteArray} {p : Bool} (h : yF s 0 p = true) : yF s 0 false = true := by
 unfold yF at h ⊢
 split
 ·rfl
 ·rename_i h1
  rw [if_neg h1] at h
  split
  ·rename_i h2; rw [if_pos h2] at h; simp at h
  ·rename_i h2; rw [if_neg h2] at h; exact h
theorem view_of {nodes : List MNode} (hn : nodes.all (xO nodes) = true) {m : Nat} {a : EI} {l : List ET} (h : At EI.node nodes m (.mk a l)) : okN a l := by
 have np : ∀ {m : Nat} {a : EI} {l : List ET}, At EI.node nodes m (.mk a l) -> NP nodes a (idxs (m + 1) l) := fun h => by
  rw [List.all_eq_true] at hn
  exact ((VU _ _ _).1 (hn _ (List.mem_of_getElem? h.root))).1
 have N := np h
 have hk := h.kids
 obtain ⟨at0, ar, p0, n0, kd, pm⟩ := N
 rw [idxs_len] at ar
 have hv : EV a l /\ (a.kind = 3 -> a.n = 0) := by
  by_cases hkd : a.kind < 1 \/ 19 < a.kind
  ·exfalso
   unfold xG EI.node at kd
   simp only at kd
   have e : ∀ z : Int, 1 <= z -> z <= 19 -> ¬ a.kind = z := fun z h1 h2 q => by omega
   simp only [e 1 (by omega) (by omega), e 2 (by omega) (by omega), e 3 (by omega) (by omega), e 4 (by omega) (by omega), e 5 (by omega) (by omega), e 7 (by omega) (by omega), e 8 (by omega) (by omega), e 10 (by omega) (by omega), e 13 (by omega) (by omega), e 15 (by omega) (by omega), if_false, false_or, or_self, Bool.and_eq_true, decide_eq_true_eq] at kd
   omega
  ·have len : ∀ z : Int, arI a.kind = z -> 0 <= z -> (l.length : Int) = z := fun z h1 h2 => by
    rcases ar with q | q <;> omega
   unfold xG EI.node xT at kd
   rcases (show a.kind = 1 \/ a.kind = 2 \/ a.kind = 3 \/ a.kind = 4 \/ a.kind = 5 \/ a.kind = 6 \/ a.kind = 7 \/ a.kind = 8 \/ a.kind = 9 \/ a.kind = 10 \/ a.kind = 11 \/ a.kind = 12 \/ a.kind = 13 \/ a.kind = 14 \/ a.kind = 15 \/ a.kind = 16 \/ a.kind = 17 \/ a.kind = 18 \/ a.kind = 19 by omega) with k | k | k | k | k | k | k | k | k | k | k | k | k | k | k | k | k | k | k
   all_goals
    rw [k] at len
    simp only [k, Int.reduceEq, or_false, false_or, or_true, true_or, if_true, if_false, Bool.and_eq_true, decide_eq_true_eq, wt, reduceIte, false_imp_iff, and_true, true_imp_iff] at kd ⊢
   ·exact .int k (List.eq_nil_of_length_eq_zero (by have := len 0 rfl (by omega); omega)) kd.1.1 kd.1.2 kd.2
   ·exact .str k (List.eq_nil_of_length_eq_zero (by have := len 0 rfl (by omega); omega))
   ·exact ⟨.var k (List.eq_nil_of_length_eq_zero (by have := len 0 rfl (by omega); omega)) kd.1, kd.2⟩
   ·rw [idxs_len] at kd
    match l, hk, kd with
    | [], _, kd => exact .con0 k rfl (shapeM_0 kd)
    | [.mk b r], hk, kd =>
     rw [show decide (([Arb.mk b r] : List ET).length = 1) = true from rfl, Bool.true_and, X4 hk.head] at kd
     unfold yF at kd
     split at kd
     ·simp at kd
     ·split at kd
      ·rename_i hs
       simp only [List.length_singleton, Bool.and_eq_true, beq_iff_eq] at kd hs
       have N2 := np hk.head
       obtain ⟨x, y, rfl⟩ : ∃ x y, r = [x, y] := two (by
        rcases N2.ar with q | q
        ·rw [kd.2] at q; exact absurd q (by decide)
        ·rw [kd.2, idxs_len] at q; simp [arI] at q; (try omega))
       exact .cons b x y k rfl kd.2 hs
      ·simp only [Bool.and_eq_true] at kd
       exact .con1 _ k rfl kd.1
    | x :: y :: r, hk, kd =>
     exfalso
     unfold yF at kd
     simp only [List.length_cons] at kd
     split at kd
     ·simp at kd; (try omega)
     ·split at kd
      ·simp at kd; (try omega)
      ·simp at kd; (try omega)
   ·obtain ⟨x, rfl⟩ := one (l := l) (by have := len 1 rfl (by omega); omega)
    exact .func x k rfl kd.1
   ·obtain ⟨x, y, rfl⟩ := two (l := l) (by have := len 2 rfl (by omega); omega)
    exact .app x y k rfl (by simpa [wt] using kd)
   ·obtain ⟨x, y, rfl⟩ := two (l := l) (by have := len 2 rfl (by omega); omega)
    exact .let_ x y k rfl kd.1
   ·obtain ⟨x, y, rfl⟩ := two (l := l) (by have := len 2 rfl (by omega); omega)
    obtain ⟨b, r⟩ := x
    rw [X4 hk.head] at kd
    have hb : b.kind = 5 := by simpa using kd.2
    have N2 := np hk.head
    obtain ⟨x, rfl⟩ : ∃ x, r = [x] := one (by
     rcases N2.ar with q | q
     ·rw [hb] at q; exact absurd q (by decide)
     ·rw [hb, idxs_len] at q; simp [arI] at q; (try omega))
    exact .rec_ b x y k rfl hb kd.1.1
   ·obtain ⟨x, y, z, rfl⟩ := three (l := l) (by have := len 3 rfl (by omega); omega)
    exact .if_ x y z k rfl (by simpa [wt] using kd)
   ·obtain ⟨x, y, rfl⟩ := two (l := l) (by have := len 2 rfl (by omega); omega)
    exact .prim x y k rfl kd
   ·obtain ⟨x, y, rfl⟩ := two (l := l) (by have := len 2 rfl (by omega); omega)
    exact .pair x y k rfl (by simpa [wt] using kd)
   ·exact .unit k (List.eq_nil_of_length_eq_zero (by have := len 0 rfl (by omega); omega)) (by simpa [wt] using kd)
   ·rw [idxs_len] at kd
    match l, kd with
    | [], kd => exact absurd kd.2 (by simp)
    | x :: r, kd =>
     have h2 := kd.2
     rw [List.length_cons] at h2
     exact .mat x r k rfl (by omega) (by have := kd.1.2; omega) kd.1.1
   ·obtain ⟨x, rfl⟩ := one (l := l) (by have := len 1 rfl (by omega); omega)
    exact .raise x k rfl (by simpa [wt] using kd)
   ·obtain ⟨x, y, rfl⟩ := two (l := l) (by have := len 2 rfl (by omega); omega)
    exact .try_ x y k rfl kd.1
   ·obtain ⟨x, rfl⟩ := one (l := l) (by have := len 1 rfl (by omega); omega)
    exact .ref x k rfl (by simpa [wt] using kd)
   ·obtain ⟨x, rfl⟩ := one (l := l) (by have := len 1 rfl (by omega); omega)
    exact .get x k rfl (by simpa [wt] using kd)
   ·obtain ⟨x, y, rfl⟩ := two (l := l) (by have := len 2 rfl (by omega); omega)
    exact .set x y k rfl (by simpa [wt] using kd)
   ·obtain ⟨x, y, rfl⟩ := two (l := l) (by have := len 2 rfl (by omega); omega)
    exact .seq x y k rfl (by simpa [wt] using kd)
 refine ⟨hv.1, at0, ?_, p0, pm⟩
 rcases n0 with q | q | q
 ·exact .inl q
 ·exact .inr (hv.2 q)
 ·exact .inr q
theorem inB_idx {nodes : List MNode} : ∀ {l : List ET} {m : Nat}, AtL EI.node nodes m l -> inB nodes (idxs m l) = true
 | [], m, h => rfl
 | t :: l, m, h => by
  have h1 := h.head.lt
  have h2 := inB_idx h.tail
  unfold inB at h2 ⊢
  rw [idxs, List.all_cons, h2, decide_eq_true (by omega), decide_eq_true (by omega)]; rfl
theorem conM_ne {s : ByteArray} (h : conM s.data.toList = true) : ¬ (s.toList = [116, 114, 117, 101] \/ s.toList = [102, 97, 108, 115, 101] \/ s.toList = [91, 93] \/ s.toList = [58, 58]) := by
 have hd : s.toList = s.data.toList := by rw [ByteArray.toList_eq]
 rw [hd]
 rintro (q | q | q | q) <;> (rw [q] at h; revert h; decide)
theorem shapeM_1 {s : ByteArray} {p : Bool} (h : conM s.data.toList = true) : yF s 1 p = true := by
 have := conM_ne h
 simp only [not_or] at this
 unfold yF
 simp [this, h]
theorem node_of {nodes : List MNode} {m : Nat} {a : EI} {l : List ET} (h : At EI.node nodes m (.mk a l)) (hv : okN a l) : xO nodes (a.node (idxs (m + 1) l)) = true := by
 refine (VU _ _ _).2 ⟨?_, inB_idx h.kids⟩
 obtain ⟨v, at0, n0, p0, pm⟩ := hv
 have hk := h.kids
 have hl := idxs_len (m + 1) l
 refine ⟨at0, ?_, p0, n0.imp_right .inr, ?_, pm⟩
 ·cases v with
  | mat x r k e _ _ _ => exact .inl (by rw [k]; decide)
  | con0 k e _ => exact .inl (by rw [k]; decide)
  | cons b x y k e _ _ => exact .inl (by rw [k]; decide)
  | con1 x k e _ => exact .inl (by rw [k]; decide)
  | int k e _ _ _ => right; rw [hl, k, e]; rfl
  | str k e => right; rw [hl, k, e]; rfl
  | rec_ b x y k e _ _ => right; rw [hl, k, e]; rfl
  | _ =>
   rename_i k e _
   right; rw [hl, k, e]; rfl
 ·unfold xG EI.node xT
  have n1 : a.kind = 1 \/ decide (a.n = 0) = true := n0.imp_right fun q => decide_eq_true q
  cases v with
  | int k e h1 h2 h3 => simp [k, h1, h2, h3]
  | str k e => simp [k]
  | var k e h1 => simp only [k] at n1; simp [k, h1]; simpa using n1
  | con0 k e h1 =>
   subst e
   simp only [k]
   simpa [idxs] using h1
  | cons b x y k e h1 h2 =>
   subst e
   simp only [k]
   rw [idxs_len, X4 hk.head 11]
   simp [yF, h2, h1]
  | con1 x k e h1 =>
   subst e
   simp only [k]
   rw [idxs_len]
   simp [shapeM_1 h1]
  | rec_ b x y k e h1 h2 =>
   subst e
   simp only [k] at n1 ⊢
   rw [X4 hk.head 5]
   simp [h1, h2]; simpa using n1
  | func x k e h1 => simp only [k] at n1; simp [k, h1]; simpa using n1
  | let_ x y k e h1 => simp only [k] at n1; simp [k, h1]; simpa using n1
  | try_ x y k e h1 => simp only [k] at n1; simp [k, h1]; simpa using n1
  | prim x y k e h1 => simp [k, h1]
  | mat x r k e h1 h2 h3 =>
   subst e
   simp only [k]
   rw [idxs_len]
   simp [h3, h1]; omega
  | _ => rename_i k e h1; simp [k, h1]
theorem tree_of {p : MProgram} (h : yE p = true) : ∃ t : ET, p.nodes = Arb.lay EI.node 0 t /\ okT t /\ t.size <= 600 /\ p.types.length <= 8 /\ p.types.all zW = true := by
 unfold yE at h
 simp only [Bool.and_eq_true, decide_eq_true_eq] at h
 obtain ⟨⟨⟨⟨⟨h1, h2⟩, h3⟩, h4⟩, h5⟩, h6⟩ := h
 obtain ⟨t, ht⟩ := grow_all (f := EI.node) (ks := fun n : MNode => n.kids) (inf := MNode.inf) EI.node_inf h6
 refine ⟨t, ht, ?_, ?_, h3, h4⟩
 ·have := At.zero (f := EI.node) t
  rw [<- ht] at this
  exact all_of t 0 this fun j x l hj => view_of h5 hj
 ·have := congrArg List.length ht
  rw [Arb.lay_len] at this
  omega
theorem prog_of {ts : List MType} {t : ET} (h1 : okT t) (h2 : t.size <= 600) (h3 : ts.length <= 8) (h4 : ts.all zW = true) : yE ⟨ts, Arb.lay EI.node 0 t⟩ = true := by
 unfold yE
 have hp := size_pos t
 simp only [Bool.and_eq_true, decide_eq_true_eq, Arb.lay_len]
 refine ⟨⟨⟨⟨⟨hp, h2⟩, h3⟩, h4⟩, ?_⟩, order_lay (f := EI.node) (ks := fun n : MNode => n.kids) (fun _ _ => rfl) t⟩
 rw [List.all_eq_true]
 intro x hx
 obtain ⟨j, hj, rfl⟩ := List.getElem_of_mem hx
 rw [Arb.lay_len] at hj
 obtain ⟨a, l, hA, hO⟩ := at_of t 0 (At.zero (f := EI.node) t) h1 j (Nat.zero_le _) (by omega)
 have := (List.getElem?_eq_some_iff.1 hA.root).2
 rw [this]
 exact node_of hA hO.root
end Go.Proofs.YtgcdbmcoendcdaaGreat
namespace Go.Proofs.YtgcdbmcoendcdaaGreat
open Go.RowKit
theorem u6 {P : Program} (w : World) (t e : TypeId) (a : Option Addr) (l c : Nat) (h : P.underlying t = some (.slice e)) : (binOp .eql t (.slice a l c) (.slice none 0 0)).run P w = .ok (.bool a.isNone) w := by
 simp [binOp, run_equal_slice_nil w t e a l c h]
def XC (E : TypeId) (w : World) (e : Ending) (w' : World) : Prop := (e = .returned (.slice none 0 0) /\ w' = w) \/ (e = .returned (.slice (some ⟨w.heap.size, 0, none⟩) 0 0) /\ w' = w.alloc (.cells #[] E))
theorem FCon.cl0 {P : Program} {f : FuncId} {fn : Func} {c : Code} (hf : P.funcs[f]? = some fn) (hname : (fn.name == "runtime.NumGoroutine") = false) (hb : fn.body = some c) {E k : Nat}
  (h : ∀ (w : World) (a : Option Addr) (c : Nat), Calls P f #[.slice a 0 c] w (fun e w' => XC E w e w')) : FCon P f [.sl k []] (fun r _ => r = .osl E k []) := by
 refine ⟨fun vs w => ?_, fun w g vs hS hu hl' hv => ?_⟩
 ·have hname' : ¬ fn.name = "runtime.NumGoroutine" := by simpa using hname
  have hbn : ¬ fn.body = none := by rw [hb]; simp
  simp [callFunc, hf, hname', hbn]
 ·obtain ⟨v, rfl, hv2⟩ := XH (P := fun j d u => RA g w j d u) hl' hv
  have hv3 : Rep g.S g.up w (some (.par 0 0)) (.sl k []) v := hv2
  obtain ⟨a, c, rfl⟩ : ∃ a c, v = .slice a 0 c := by
   clear hv hv2
   cases hv3 with
   | sl0 _ => exact ⟨_, _, rfl⟩
   | sl us h1 h2 h3 h4 h5 => exact ⟨_, _, rfl⟩
  refine (h w a c).mono ?_
  rintro e w' (⟨rfl, rfl⟩ | ⟨rfl, rfl⟩)
  ·exact ⟨_, ⟨fun _ => none, fun _ => 0, fun _ => none, g.S⟩, _, [], rfl, Below.refl _ _, fun _ _ _ => rfl, fun _ q => q, fun _ _ q => .inl q, hS, fun b p q => (by cases q), rfl, (Rep.osl0 : Rep _ _ _ (some (.ans 0 0)) (.osl E k []) _), fun j d u q => (by simp at q)⟩
  ·have hz : ∀ b, b < w.heap.size -> (w.alloc (.cells #[] E)).heap[b]? = w.heap[b]? := fun b hb => by
    show (w.heap.push _)[b]? = _; rw [Array.getElem?_push_lt hb, Array.getElem?_eq_getElem hb]
   have hn : (w.alloc (.cells #[] E)).heap[w.heap.size]? = some (.cells #[] E (0, 0)) := by
    exact Array.getElem?_push_size
   have hs : (w.alloc (.cells #[] E)).heap.size = w.heap.size + 1 := Array.size_push ..
   refine ⟨_, ⟨fun _ => none, fun _ => 0, fun b => if b = w.heap.size then some (.ans 0 0) else none, g.S⟩, _, [], rfl, (Below.refl 0 w).alloc (Nat.zero_le _) _, fun b hb _ => hz b hb, fun _ q => q, fun _ _ q => .inl q, fun b q => by have := hS b q; omega, fun b p q => ?_, rfl, ?_, fun j d u q => (by simp at q)⟩
   ·simp only at q
    split at q
    ·rename_i e; subst e
     exact ⟨by omega, fun q => by omega, fun q => by have := hS _ q; omega⟩
    ·cases q
   ·show Rep g.S _ _ (some (.ans 0 0)) (.osl E k []) _
    exact Rep.osl (b := w.heap.size) (c := 0) #[] (if_pos rfl) hn (Nat.le_refl _) (by decide) (by simp) (fun i row q => by simp at q) (fun i j row d q => by simp at q)
theorem FCon.cl0I {P : Program} {f : FuncId} {E k : Nat} {rows : List (List D)} (h0 : rows = [] -> FCon P f [.sl k []] (fun r _ => r = .osl E k [])) (h1 : rows.isEmpty = false -> FCon P f [.sl k rows] (fun r _ => r = .osl E k rows)) : FCon P f [.sl k rows] (fun r _ => r = .osl E k rows) := by
 cases rows with
 | nil => exact h0 rfl
 | cons r l => exact h1 rfl
theorem xai (w : World) (a : Option Addr) (c : Nat) : Calls Tryz.prog 221 #[.slice a 0 c] w fun e w' => XC 3 w e w' := by
 have hnil := u6 (P := Tryz.prog) w 53 3 a 0 c Tryz.underlying53
 cases a with
 | none =>
  go_enter Tryz.func221, Tryz.ntmps221
  go_wp2
  go_ret
  exact .inl ⟨rfl, rfl⟩
 | some ad =>
  go_enter Tryz.func221, Tryz.ntmps221
  go_wp2
  go_ret
  exact .inr ⟨rfl, rfl⟩
theorem Vz (rows : List (List D)) (hk : ∀ r ∈ rows, r.length = 1) (hl : rows.length <= 1000000000) : FCon Tryz.prog 221 [.sl 1 rows] (fun r _ => r = .osl 3 1 rows) := by
 refine FCon.cl0I (fun _ => FCon.cl0 Tryz.func221 rfl rfl xai) fun he => ?_
 refine FI PM Tryz.func221 Tryz.ntmps221 [] rfl rfl ?_
 (have hWf := w1 @he; repeat' (first | refine zS ?_ | refine zI ?_ ?_ | exact zF0 | refine zD fun hb => ?_ | exact zC | refine zT ?_ | fail))
 all_goals first | exact ⟨_, rfl⟩ | skip
theorem Qq (xs : List Int) (hl : xs.length <= 1000000000) : FCon Tryz.prog 221 [.sl 1 (xs.map iE)] (fun r _ => r = .osl 3 1 (xs.map iE)) := Vz (xs.map iE) (fun r hr => by obtain ⟨y, _, rfl⟩ := List.mem_map.1 hr; rfl) (by simpa using hl)
theorem Ve (w : World) (a : Option Addr) (c : Nat) : Calls Tryz.prog 161 #[.slice a 0 c] w fun e w' => XC 159 w e w' := by
 have hnil := u6 (P := Tryz.prog) w 64 159 a 0 c Tryz.underlying64
 cases a with
 | none =>
  go_enter Tryz.func161, Tryz.ntmps161
  go_wp2
  go_ret
  exact .inl ⟨rfl, rfl⟩
 | some ad =>
  go_enter Tryz.func161, Tryz.ntmps161
  go_wp2
  go_ret
  exact .inr ⟨rfl, rfl⟩
theorem Wq (rows : List (List D)) (hk : ∀ r ∈ rows, r.length = 3) (hl : rows.length <= 1000000000) : FCon Tryz.prog 161 [.sl 3 rows] (fun r _ => r = .osl 159 3 rows) := by
 refine FCon.cl0I (fun _ => FCon.cl0 Tryz.func161 rfl rfl Ve) fun he => ?_
 refine FI PM Tryz.func161 Tryz.ntmps161 [] rfl rfl ?_
 (have hWf := w1 @he; repeat' (first | refine zS ?_ | refine zI ?_ ?_ | exact zF0 | refine zD fun hb => ?_ | exact zC | refine zT ?_ | fail))
 all_goals first | exact ⟨_, rfl⟩ | skip
theorem W5 (xs : List TyI) (hl : xs.length <= 1000000000) : FCon Tryz.prog 161 [.sl 3 (xs.map TyI.enc)] (fun r _ => r = .osl 159 3 (xs.map TyI.enc)) := Wq (xs.map TyI.enc) (fun r hr => by obtain ⟨y, _, rfl⟩ := List.mem_map.1 hr; rfl) (by simpa using hl)
theorem VG (w : World) (a : Option Addr) (c : Nat) : Calls Tryz.prog 220 #[.slice a 0 c] w fun e w' => XC 126 w e w' := by
 have hnil := u6 (P := Tryz.prog) w 87 126 a 0 c Tryz.underlying87
 cases a with
 | none =>
  go_enter Tryz.func220, Tryz.ntmps220
  go_wp2
  go_ret
  exact .inl ⟨rfl, rfl⟩
 | some ad =>
  go_enter Tryz.func220, Tryz.ntmps220
  go_wp2
  go_ret
  exact .inr ⟨rfl, rfl⟩
theorem W4 (rows : List (List D)) (hk : ∀ r ∈ rows, r.length = 4) (hl : rows.length <= 1000000000) : FCon Tryz.prog 220 [.sl 4 rows] (fun r _ => r = .osl 126 4 rows) := by
 refine FCon.cl0I (fun _ => FCon.cl0 Tryz.func220 rfl rfl VG) fun he => ?_
 refine FI PM Tryz.func220 Tryz.ntmps220 [] rfl rfl ?_
 (have hWf := w1 @he; repeat' (first | refine zS ?_ | refine zI ?_ ?_ | exact zF0 | refine zD fun hb => ?_ | exact zC | refine zT ?_ | fail))
 all_goals first | exact ⟨_, rfl⟩ | skip
theorem Yp (xs : List DPNode) (hl : xs.length <= 1000000000) : FCon Tryz.prog 220 [.sl 4 (xs.map DPNode.enc)] (fun r _ => r = .osl 126 4 (xs.map DPNode.enc)) := W4 (xs.map DPNode.enc) (fun r hr => by obtain ⟨y, _, rfl⟩ := List.mem_map.1 hr; rfl) (by simpa using hl)
theorem xah (w : World) (a : Option Addr) (c : Nat) : Calls Tryz.prog 160 #[.slice a 0 c] w fun e w' => XC 68 w e w' := by
 have hnil := u6 (P := Tryz.prog) w 61 68 a 0 c Tryz.underlying61
 cases a with
 | none =>
  go_enter Tryz.func160, Tryz.ntmps160
  go_wp2
  go_ret
  exact .inl ⟨rfl, rfl⟩
 | some ad =>
  go_enter Tryz.func160, Tryz.ntmps160
  go_wp2
  go_ret
  exact .inr ⟨rfl, rfl⟩
theorem Vy (rows : List (List D)) (hk : ∀ r ∈ rows, r.length = 3) (hl : rows.length <= 1000000000) : FCon Tryz.prog 160 [.sl 3 rows] (fun r _ => r = .osl 68 3 rows) := by
 refine FCon.cl0I (fun _ => FCon.cl0 Tryz.func160 rfl rfl xah) fun he => ?_
 refine FI PM Tryz.func160 Tryz.ntmps160 [] rfl rfl ?_
 (have hWf := w1 @he; repeat' (first | refine zS ?_ | refine zI ?_ ?_ | exact zF0 | refine zD fun hb => ?_ | exact zC | refine zT ?_ | fail))
 all_goals first | exact ⟨_, rfl⟩ | skip
theorem Qp (xs : List MCon) (hl : xs.length <= 1000000000) : FCon Tryz.prog 160 [.sl 3 (xs.map MCon.enc)] (fun r _ => r = .osl 68 3 (xs.map MCon.enc)) := Vy (xs.map MCon.enc) (fun r hr => by obtain ⟨y, _, rfl⟩ := List.mem_map.1 hr; rfl) (by simpa using hl)
def mixR {α : Type} (f g : α -> List D) (l : List α) (k : Nat) : List (List D) := (l.take k).map f ++ (l.drop k).map g
section
variable {α : Type} {f g : α -> List D} {l : List α} {k : Nat}
theorem YP : mixR f g l 0 = l.map g := rfl
theorem ZZ : mixR f g l l.length = l.map f := by unfold mixR; rw [List.take_length, List.drop_length]; simp
theorem Yc : (mixR f g l k).length = l.length := by unfold mixR; rw [List.length_append, List.length_map, List.length_map, List.length_take, List.length_drop]; simp only [Nat.min_def]; split <;> omega
theorem Yb (h : k < l.length) : (mixR f g l k).getD k [] = g l[k] := by
 unfold mixR
 have : ((l.take k).map f).length = k := by rw [List.length_map, List.length_take]; omega
 rw [List.getD_eq_getElem?_getD, List.getElem?_append_right (by omega), this, Nat.sub_self, List.getElem?_map, List.getElem?_drop, Nat.add_zero, List.getElem?_eq_getElem h]; rfl
theorem Z0 (h : k < l.length) : (mixR f g l k).set k (f l[k]) = mixR f g l (k + 1) := by
 unfold mixR
 have e : ((l.take k).map f).length = k := by rw [List.length_map, List.length_take]; omega
 rw [List.set_append_right _ _ (by omega), e, Nat.sub_self, List.drop_eq_getElem_cons h, List.map_cons, List.set_cons_zero, List.take_succ_eq_append_getElem h, List.map_append]
 simp
end
theorem c_copyPat (xs : List DPNode) (hl : xs.length <= 1000000) (hk : ∀ x ∈ xs, x.kids.length <= 1000000) : FCon Tryz.prog 162 [.ag [.sl 4 (xs.map DPNode.enc)]] (fun r _ => r = .ag [.osl 126 4 (xs.map DPNode.own)]) := by
 refine FI PM Tryz.func162 Tryz.ntmps162 [(5, 6, [5], [(5, 0), (5, 1), (5, 2)], (lin [5] [0, 1, 2, 3, 4, 5]))] rfl rfl ?_
 (have hWf := f0; repeat' (first | refine zS ?_ | refine zI ?_ ?_ | ((with_reducible apply xc); refine zG (Yp xs (by omega)) ?_) | refine zU (Yp xs (by omega)) ?_ | exact zF0 | refine zD fun hb => ?_ | exact zC | refine zT ?_ | fail))
 refine xk (fun n σ => ∃ k : Nat, k <= xs.length /\ n = xs.length - k /\ σ.t 2 = .bx 2 0 /\ σ.b 2 = some (.box [.nil]) /\ σ.t 3 = .bx 3 0 /\ σ.b 3 = some (.box [.bs 1008 4 xs.length]) /\ σ.t 11 = .bs 1008 4 xs.length /\ σ.b 1008 = some (.arr 126 4 (mixR DPNode.own DPNode.enc xs k)) /\ σ.t 12 = .s (.int .i64 xs.length) /\ σ.t 13 = .s (.int .i64 k)) xs.length ⟨0, by omega, by omega, ?_⟩ ?_
 ·simp only [go_sem, simprocAttr, Int.natCast_zero, YP]
 ·rintro n σ ⟨k, hk2, rfl, h2, b2, h3, b3, h11, b1, h12, h13⟩ K' hK
  have hml := Yc (f := DPNode.own) (g := DPNode.enc) (l := xs) (k := k)
  by_cases hlt : k < xs.length
  ·have hx := Yb (f := DPNode.own) (g := DPNode.enc) hlt
   have he := DPNode.enc_eq xs[k]
   have hst := Z0 (f := DPNode.own) (g := DPNode.enc) hlt
   rw [DPNode.own_eq] at hst
   have hcl := Qq xs[k].kids (by have := hk _ (List.getElem_mem hlt); omega)
   (have hWf := w12 @h2 @b2 @h3 @b3 @h11 @b1 @h12 @h13 @hx @he @hml @hst; repeat' (first | refine zS ?_ | refine zI ?_ ?_ | refine zX (FCon.noout hcl) ?_ | ((with_reducible apply xc); refine zG (hcl) ?_) | exact zF0 | refine zD fun hb => ?_ | exact zC | refine zT ?_ | fail))
   refine hK (xs.length - (k + 1)) _ (by omega) ⟨k + 1, by omega, rfl, ?_⟩
   simp only [go_sem, simprocAttr, h2, b2, h3, b3, h11, b1, h12, h13, Int.natCast_succ, hst]
  ·obtain rfl : k = xs.length := by omega
   rw [ZZ] at b1
   (have hWf := w8 @h2 @b2 @h3 @b3 @h11 @b1 @h12 @h13; repeat' (first | refine zS ?_ | refine zI ?_ ?_ | exact zF0 | refine zD fun hb => ?_ | exact zC | refine zT ?_ | fail))
theorem XV (qs : List MPat) (hl : qs.length <= 1000000) (hk : ∀ q ∈ qs, q.nodes.length <= 1000000 /\ ∀ x ∈ q.nodes, x.kids.length <= 1000000) : FCon Tryz.prog 79 [.sl 1 (qs.map MPat.enc)] (fun r _ => r = .osl 89 1 (qs.map MPat.own)) := by
 refine FI PM Tryz.func79 Tryz.ntmps79 [] rfl rfl ?_
 (have hWf := f0; repeat' (first | refine zS ?_ | refine zI ?_ ?_ | exact zF0 | refine zD fun hb => ?_ | exact zC | refine zT ?_ | fail))
 refine xk (fun n σ => ∃ k : Nat, k <= qs.length /\ n = qs.length - k /\ σ.t 3 = .bs 6 1 k /\ σ.b 6 = some (.arr 89 1 ((qs.take k).map MPat.own)) /\ σ.t 7 = .sl 1 (qs.map MPat.enc) /\ σ.t 8 = .s (.int .i64 qs.length) /\ σ.t 9 = .s (.int .i64 k)) qs.length ⟨0, by omega, by omega, ?_⟩ ?_
 ·simp only [go_sem, simprocAttr, Int.natCast_zero, List.take_zero]
 ·rintro n σ ⟨k, hk2, rfl, h3, b6, h7, h8, h9⟩ K' hK
  by_cases hlt : k < qs.length
  ·have hx := xh MPat.enc qs k hlt
   have he := MPat.enc_eq qs[k]
   have ho := MPat.own_eq qs[k]
   have htl : (qs.take k).length = k := by rw [List.length_take]; omega
   have hts := List.take_succ_eq_append_getElem hlt
   have hkk := hk _ (List.getElem_mem hlt)
   (have hWf := w8 @h3 @b6 @h7 @h8 @h9 @hx @he @htl; repeat' (first | refine zS ?_ | refine zI ?_ ?_ | refine zK (c_copyPat qs[k].nodes hkk.1 hkk.2) ?_ | exact zF0 | refine zD fun hb => ?_ | exact zC | refine zT ?_ | fail))
   refine hK (qs.length - (k + 1)) _ (by omega) ⟨k + 1, by omega, rfl, ?_⟩
   simp only [go_sem, simprocAttr, h3, b6, h7, h8, h9, Int.natCast_succ, hts, List.map_append, ho]
  ·obtain rfl : k = qs.length := by omega
   rw [List.take_length] at b6
   (have hWf := w5 @h3 @b6 @h7 @h8 @h9; repeat' (first | refine zS ?_ | refine zI ?_ ?_ | exact zF0 | refine zD fun hb => ?_ | exact zC | refine zT ?_ | fail))
end Go.Proofs.YtgcdbmcoendcdaaGreat
namespace Go.Proofs.YtgcdbmcoendcdaaGreat
open Go.RowKit Arb
mutual
def exO : ET -> D
 | .mk a l => .opt [.s (.int .i64 a.kind), .s (.int .i64 a.at_), .s (.int .i64 a.n), .s (.string a.s), .osl 72 1 (exOL l), .osl 89 1 (a.pats.map MPat.own)]
def exOL : List ET -> List (List D)
 | [] => []
 | t :: l => [exO t] :: exOL l
end
mutual
def exE : ET -> D
 | .mk a l => .pt [.s (.int .i64 a.kind), .s (.int .i64 a.at_), .s (.int .i64 a.n), .s (.string a.s), .sl 1 (exEL l), .sl 1 (a.pats.map MPat.enc)]
def exEL : List ET -> List (List D)
 | [] => []
 | t :: l => [exE t] :: exEL l
end
def exR (t : ET) : List D := [exO t]
def exS (t : ET) : List D := [exE t]
theorem exOL_map (l : List ET) : exOL l = l.map exR := by
 induction l with
 | nil => rfl
 | cons t l ih => rw [exOL, ih]; rfl
theorem exEL_map (l : List ET) : exEL l = l.map exS := by
 induction l with
 | nil => rfl
 | cons t l ih => rw [exEL, ih]; rfl
theorem XE (a : EI) (l : List ET) : exO (.mk a l) = .opt [.s (.int .i64 a.kind), .s (.int .i64 a.at_), .s (.int .i64 a.n), .s (.string a.s), .osl 72 1 (l.map exR), .osl 89 1 (a.pats.map MPat.own)] := by rw [exO, exOL_map]
theorem xM (a : EI) (l : List ET) : exE (.mk a l) = .pt [.s (.int .i64 a.kind), .s (.int .i64 a.at_), .s (.int .i64 a.n), .s (.string a.s), .sl 1 (l.map exS), .sl 1 (a.pats.map MPat.enc)] := by rw [exE, exEL_map]
def Xg (qs : List MPat) : Prop := qs.length <= 1000000 /\ ∀ q ∈ qs, q.nodes.length <= 1000000 /\ ∀ x ∈ q.nodes, x.kids.length <= 1000000
theorem c_grow (nodes : List MNode) (hl : nodes.length <= 1000000) : ∀ (t : ET) (m : Nat), At EI.node nodes m t -> All (fun a _ => Xg a.pats) t -> FCon Tryz.prog 31 [.sl 6 (nodes.map MNode.enc), .s (.int .i64 m)] (fun r _ => r = exO t) := fun t => by
 induction t using Arb.ind with
 | h a l ih =>
  intro m hA hp
  obtain ⟨hm, hr⟩ := List.getElem?_eq_some_iff.1 hA.root
  have hx := xh MNode.enc nodes m hm
  have he : (a.node (idxs (m + 1) l)).enc = [.s (.int .i64 a.kind), .s (.int .i64 a.at_), .s (.int .i64 a.n), .s (.string a.s), .sl 1 ((idxs (m + 1) l).map iE), .sl 1 (a.pats.map MPat.enc)] := rfl
  rw [hr] at hx
  have hpp := hp.root
  have hil := idxs_len (m + 1) l
  have hll : l.length <= 1000000 := by
   have h1 := hA.bd
   have h2 := sizeL_len l
   rw [size_mk] at h1
   omega
  rw [XE]
  refine FI PM Tryz.func31 Tryz.ntmps31 [(2, 11, [10], [(10, 0), (10, 1), (10, 2), (10, 3), (10, 4), (10, 5), (10, 6), (10, 7)], (lin [10] [0, 1, 2, 3, 4, 5, 6, 7, 8, 9, 10])), (6, 10, [7, 8, 9], [(7, 0), (7, 1), (7, 2), (7, 3), (7, 4), (8, 0), (8, 1), (8, 2), (8, 3), (8, 4), (9, 0)], (lin [7, 8, 9] [0, 1, 2, 3, 4, 5, 6, 7, 8, 9]))] rfl rfl ?_
  (have hWf := w3 @hx @he @hil; repeat' (first | refine zS ?_ | refine zI ?_ ?_ | refine zX (FCon.noout (XV a.pats hpp.1 hpp.2)) ?_ | ((with_reducible apply xc); refine zG (XV a.pats hpp.1 hpp.2) ?_) | exact zF0 | refine zD fun hb => ?_ | exact zC | refine zT ?_ | fail))
  refine Wi (zc 25 4 777 (row := [.s (.int .i64 a.kind), .s (.int .i64 a.at_), .s (.int .i64 a.n), .s (.string a.s), .nil, .bs 1023 1 a.pats.length]) 72 1 (by simp only [go_sem, simprocAttr]) rfl (by decide) rfl (xA ?_))
  simp only [go_sem, simprocAttr]
  refine xk (fun n σ => ∃ k : Nat, k <= l.length /\ n = l.length - k /\ σ.t 0 = .sl 6 (nodes.map MNode.enc) /\ σ.t 6 = .bx 25 0 /\ σ.t 27 = .sl 1 ((idxs (m + 1) l).map iE) /\ σ.t 28 = .s (.int .i64 l.length) /\ σ.t 29 = .s (.int .i64 k) /\
   σ.b 25 = some (.box [.s (.int .i64 a.kind), .s (.int .i64 a.at_), .s (.int .i64 a.n), .s (.string a.s), .bs 777 1 k, .bs 1023 1 a.pats.length]) /\ σ.b 777 = some (.arr 72 1 ((l.take k).map exR)) /\ σ.b 1023 = some (.arr 89 1 (a.pats.map MPat.own))) l.length ⟨0, by omega, by omega, ?_⟩ ?_
  ·simp only [go_sem, simprocAttr, Int.natCast_zero, List.take_zero]
  ·rintro n σ ⟨k, hk, rfl, h0, h6, h27, h28, h29, b25, b7, b1⟩ K' hK
   by_cases hlt : k < l.length
   ·have hlt2 : k < (idxs (m + 1) l).length := by rw [hil]; exact hlt
    have hx2 := xh iE (idxs (m + 1) l) k hlt2
    have he2 : iE (idxs (m + 1) l)[k] = [.s (.int .i64 ((m + 1 + sizeL (l.take k) : Nat) : Int))] := by rw [idxs_at (m + 1) l k hlt]; rfl
    have hg := ih l[k] (List.getElem_mem hlt) _ (hA.kids.at k hlt) (hp.kid _ (List.getElem_mem hlt))
    obtain ⟨b, r, hbr⟩ : ∃ b r, l[k] = .mk b r := ⟨_, _, Arb.eta _⟩
    have hex : exR l[k] = [exO l[k]] := rfl
    rw [hbr, XE] at hg hex
    have htl : (l.take k).length = k := by rw [List.length_take]; omega
    have hts := List.take_succ_eq_append_getElem hlt
    (have hWf := w12 @h0 @h6 @h27 @h28 @h29 @b25 @b7 @b1 @hx2 @he2 @hil @htl; repeat' (first | refine zS ?_ | refine zI ?_ ?_ | refine zX (FCon.noout hg) ?_ | ((with_reducible apply xc); refine zG (hg) ?_) | exact zF0 | refine zD fun hb => ?_ | exact zC | refine zT ?_ | fail))
    refine hK (l.length - (k + 1)) _ (by omega) ⟨k + 1, by omega, rfl, ?_⟩
    simp only [go_sem, simprocAttr, h0, h6, h27, h28, h29, b25, b7, b1, Int.natCast_succ, hts, List.map_append, hbr, hex]
   ·obtain rfl : k = l.length := by omega
    rw [List.take_length] at b7
    (have hWf := w8 @h0 @h6 @h27 @h28 @h29 @b25 @b7 @b1; repeat' (first | refine zS ?_ | refine zI ?_ ?_ | exact zF0 | refine zD fun hb => ?_ | exact zC | refine zT ?_ | fail))
end Go.Proofs.YtgcdbmcoendcdaaGreat
namespace Go.Proofs.YtgcdbmcoendcdaaGreat
open Arb
def nS : ByteArray := ⟨#[]⟩
structure PS where
 i : Nat
 code : Int
 at_ : Int
 vars : List Int
 seen : List ByteArray
def sgT (t : MTok) : ByteArray := if t.kind = 6 then t.s else nS
def isT (t : MTok) (x : ByteArray) : Bool := (sgT t).toList == x.toList
def inT (t : MTok) (l : List ByteArray) : Bool := l.any fun x => isT t x
def begT (t : MTok) : Bool := decide (t.kind = 1 \/ t.kind = 2 \/ t.kind = 3 \/ t.kind = 4) || isT t ⟨#[40]⟩ || isT t ⟨#[91]⟩ || isT t ⟨#[116, 114, 117, 101]⟩ || isT t ⟨#[102, 97, 108, 115, 101]⟩
def wW (t : MTok) : Bool := decide (t.kind = 3 \/ t.kind = 1 \/ t.kind = 4) || inT t [⟨#[95]⟩, ⟨#[45]⟩, ⟨#[40]⟩, ⟨#[91]⟩, ⟨#[116, 114, 117, 101]⟩, ⟨#[102, 97, 108, 115, 101]⟩]
def Zc (t : MTok) : Bool := begT t || inT t [⟨#[102, 117, 110]⟩, ⟨#[108, 101, 116]⟩, ⟨#[105, 102]⟩, ⟨#[109, 97, 116, 99, 104]⟩, ⟨#[116, 114, 121]⟩, ⟨#[114, 97, 105, 115, 101]⟩, ⟨#[114, 101, 102]⟩, ⟨#[33]⟩, ⟨#[45]⟩]
def tywT (t : MTok) : Bool := decide (t.kind = 3) || isT t ⟨#[114, 101, 102]⟩
def E0 : ET := .mk ⟨0, 0, 0, nS, []⟩ []
def eN (k at_ : Int) (s : ByteArray) (l : List ET) : ET := .mk ⟨k, at_, 0, s, []⟩ l
def P0 : PT := .mk ⟨0, 0, nS⟩ []
def pN (k n : Int) (s : ByteArray) (l : List PT) : PT := .mk ⟨k, n, s⟩ l
def consT (at_ : Int) (a b : ET) : ET := eN 4 at_ ⟨#[58, 58]⟩ [eN 11 at_ nS [a, b]]
section
variable (T : List MTok) (e : Int)
def tokS (s : PS) : MTok := if s.code = 0 /\ s.i < T.length then T.getD s.i ⟨0, 0, nS, 0⟩ else ⟨0, 0, nS, e⟩
def isS (s : PS) (x : ByteArray) : Bool := isT (tokS T e s) x
def advS (s : PS) : PS := ⟨s.i + 1, s.code, s.at_, s.vars, s.seen⟩
def xx (s : PS) (c : Int) : PS := if s.code = 0 then ⟨s.i, c, if s.i < T.length then (T.getD s.i ⟨0, 0, nS, 0⟩).at_ else e, s.vars, s.seen⟩ else s
def xf (s : PS) (x : ByteArray) : PS := if isS T e s x = true then advS s else xx T e s 7
def xp (s : PS) (k : Int) : ByteArray × PS := if (tokS T e s).kind = k then ((tokS T e s).s, advS s) else (nS, xx T e s 7)
def zm (s : PS) (b : Bool) : PS := if b = true then xx T e s 9 else xx T e s 7
def ty1 (name : ByteArray) (l : List (List TyI)) : List TyI := ⟨0, name, l.length⟩ :: l.flatten
def XM (s : PS) : Bool := (decide ((tokS T e s).kind = 5) && s.vars.contains (tokS T e s).n) || decide ((tokS T e s).kind = 3) || isS T e s ⟨#[40]⟩
def zy (v : Int) : List Int -> Nat -> Nat -> Nat
 | [], _, r => r
 | x :: l, k, r => zy v l (k + 1) (if x = v then k else r)
section
variable (R : PS -> List TyI × PS)
def x8 (s : PS) : List TyI × PS :=
 if (tokS T e s).kind = 5 then (if s.vars.contains (tokS T e s).n = true then ([⟨(zy (tokS T e s).n s.vars 0 0 : Nat), nS, 0⟩], advS s) else ([], xx T e s 7))
 else if (tokS T e s).kind = 3 then (ty1 (tokS T e s).s [], advS s)
 else match R (xf T e s ⟨#[40]⟩) with
  | (a, s1) => if isS T e s1 ⟨#[44]⟩ = true then (match R (advS s1) with
    | (b, s2) => match xp T e (xf T e s2 ⟨#[41]⟩) 3 with
     | (nm, s3) => (ty1 nm [a, b], s3))
   else (a, xf T e s1 ⟨#[41]⟩)
def yu : Nat -> List TyI -> PS -> List TyI × PS
 | 0, a, s => (a, s)
 | n + 1, a, s => if s.code = 0 /\ tywT (tokS T e s) = true then yu n (ty1 (tokS T e s).s [a]) (advS s) else (a, s)
def yD : Nat -> PS -> List TyI × PS
 | 0, s => ([], s)
 | n + 1, s => match x8 T e R s with
  | (a0, s0) => match yu T e (T.length + 1) a0 s0 with
   | (a, s1) => if isS T e s1 ⟨#[42]⟩ = true then (match yD n (advS s1) with
     | (b, s2) => (ty1 ⟨#[42]⟩ [a, b], s2)) else (a, s1)
def zL (s : PS) : List TyI × PS :=
 if s.code = 0 then (match yD T e R (T.length + 1) s with
  | (a, s1) => if isS T e s1 ⟨#[45, 62]⟩ = true then (match R (advS s1) with
    | (b, s2) => (ty1 ⟨#[45, 62]⟩ [a, b], s2)) else (a, s1))
 else ([], s)
end
def tyF : Nat -> PS -> List TyI × PS
 | 0, s => if s.code = 0 then ([], zm T e s (XM T e s)) else ([], s)
 | k + 1, s => zL T e (tyF k) s
def xW (s0 : PS) : MType × PS :=
 let s : PS := ⟨s0.i, s0.code, s0.at_, [], s0.seen⟩
 if isS T e s ⟨#[40]⟩ = true then
  (let s1 := advS s
   let a := tokS T e s1
   let s2 := (xp T e s1 5).2
   let s3 := xf T e s2 ⟨#[44]⟩
   let b := tokS T e s3
   let s4 := if b.kind = 5 /\ b.n = a.n then xx T e s3 7 else s3
   let s5 := (xp T e s4 5).2
   let s6 := xf T e s5 ⟨#[41]⟩
   let s7 : PS := ⟨s6.i, s6.code, s6.at_, [a.n, b.n], s6.seen⟩
   (⟨(xp T e s7 3).1, 2, []⟩, (xp T e s7 3).2))
 else if (tokS T e s).kind = 5 then
  (let s1 : PS := ⟨s.i + 1, s.code, s.at_, [(tokS T e s).n], s.seen⟩
   (⟨(xp T e s1 3).1, 1, []⟩, (xp T e s1 3).2))
 else (⟨(xp T e s 3).1, 0, []⟩, (xp T e s 3).2)
def conS (s : PS) : MCon × PS := match xp T e s 4 with
 | (nm, s1) => if isS T e s1 ⟨#[111, 102]⟩ = true then (match tyF T e 101 (advS s1) with
  | (a, s2) => (⟨nm, true, a⟩, s2)) else (⟨nm, false, []⟩, s1)
def yd : Nat -> List MCon -> PS -> List MCon × PS
 | 0, l, s => (l, s)
 | n + 1, l, s => if s.code = 0 then (match conS T e s with
  | (c, s1) => if isS T e s1 ⟨#[124]⟩ = true then yd n (l ++ [c]) (advS s1) else (l ++ [c], s1)) else (l, s)
def zh (s : PS) : MType × PS := match xW T e s with
 | (t, s1) => match yd T e (T.length + 1) [] (xf T e s1 ⟨#[61]⟩) with
  | (l, s2) => (⟨t.name, t.params, l⟩, xf T e s2 ⟨#[59]⟩)
def yI : Nat -> List MType -> PS -> List MType × PS
 | 0, l, s => (l, s)
 | n + 1, l, s => if isS T e s ⟨#[116, 121, 112, 101]⟩ = true then (match zh T e (advS s) with
  | (t, s1) => yI n (l ++ [t]) s1) else (l, s)
def Yi (s : PS) (t : MTok) : Bool := s.seen.any fun x => decide (t.kind = 3) && (x.toList == t.s.toList)
def pushS (s : PS) (x : ByteArray) : PS := ⟨s.i + 1, s.code, s.at_, s.vars, s.seen ++ [x]⟩
section
variable (R : PS -> PT × PS)
def z8 : Nat -> PS -> PT × PS
 | 0, s => (P0, s)
 | n + 1, s =>
  if (tokS T e s).kind = 3 then (if Yi s (tokS T e s) = true then (P0, xx T e s 8) else (pN 2 0 (tokS T e s).s [], pushS s (tokS T e s).s))
  else if (tokS T e s).kind = 1 then (pN 3 (tokS T e s).n nS [], advS s)
  else if (tokS T e s).kind = 4 then (if wW (tokS T e (advS s)) = true then (match z8 n (advS s) with
    | (a, s1) => (pN 4 0 (tokS T e s).s [a], s1)) else (pN 4 0 (tokS T e s).s [], advS s))
  else if isS T e s ⟨#[95]⟩ = true then (pN 1 0 nS [], advS s)
  else if isS T e s ⟨#[116, 114, 117, 101]⟩ = true then (pN 4 0 ⟨#[116, 114, 117, 101]⟩ [], advS s)
  else if isS T e s ⟨#[102, 97, 108, 115, 101]⟩ = true then (pN 4 0 ⟨#[102, 97, 108, 115, 101]⟩ [], advS s)
  else if isS T e s ⟨#[91]⟩ = true then (pN 4 0 ⟨#[91, 93]⟩ [], xf T e (advS s) ⟨#[93]⟩)
  else if isS T e s ⟨#[45]⟩ = true then (pN 3 (-(tokS T e (advS s)).n) nS [], (xp T e (advS s) 1).2)
  else if isS T e s ⟨#[40]⟩ = true then (if isS T e (advS s) ⟨#[41]⟩ = true then (pN 6 0 nS [], advS (advS s))
   else match R (advS s) with
    | (a, s1) => if isS T e s1 ⟨#[44]⟩ = true then (match R (advS s1) with
      | (b, s2) => (pN 5 0 nS [a, b], xf T e s2 ⟨#[41]⟩)) else (a, xf T e s1 ⟨#[41]⟩))
  else (P0, xx T e s 7)
def uV (s : PS) : PT × PS :=
 if s.code = 0 then (match z8 T e R (T.length + 1) s with
  | (a, s1) => if isS T e s1 ⟨#[58, 58]⟩ = true then (match R (advS s1) with
    | (b, s2) => (pN 4 0 ⟨#[58, 58]⟩ [pN 5 0 nS [a, b]], s2)) else (a, s1))
 else (P0, s)
end
def patF : Nat -> PS -> PT × PS
 | 0, s => if s.code = 0 then (if Yi s (tokS T e s) = true then (P0, xx T e s 8) else (P0, zm T e s (wW (tokS T e s)))) else (P0, s)
 | k + 1, s => uV T e (patF k) s
section
variable (R : PS -> ET × PS)
def zg (s : PS) : ET × PS :=
 if begT (tokS T e s) = true then
  (if (tokS T e s).kind = 1 then (.mk ⟨1, (tokS T e s).at_, (tokS T e s).n, nS, []⟩ [], advS s)
  else if (tokS T e s).kind = 2 then (eN 2 (tokS T e s).at_ (tokS T e s).s [], advS s)
  else if (tokS T e s).kind = 3 then (eN 3 (tokS T e s).at_ (tokS T e s).s [], advS s)
  else if (tokS T e s).kind = 4 then (eN 4 (tokS T e s).at_ (tokS T e s).s [], advS s)
  else if ((tokS T e s).s.toList == (⟨#[91]⟩ : ByteArray).toList) = true then (eN 4 (tokS T e s).at_ ⟨#[91, 93]⟩ [], xf T e (advS s) ⟨#[93]⟩)
  else if ((tokS T e s).s.toList == (⟨#[40]⟩ : ByteArray).toList) = true then
   (if isS T e (advS s) ⟨#[41]⟩ = true then (eN 12 (tokS T e s).at_ nS [], advS (advS s))
   else match R (advS s) with
    | (a, s1) => if isS T e s1 ⟨#[44]⟩ = true then (match R (advS s1) with
      | (b, s2) => (eN 11 (tokS T e s).at_ nS [a, b], xf T e s2 ⟨#[41]⟩)) else (a, xf T e s1 ⟨#[41]⟩))
  else (eN 4 (tokS T e s).at_ (tokS T e s).s [], advS s))
 else (E0, xx T e s 7)
def kidT (a b : ET) : ET := .mk a.a [b]
def appF : Nat -> Bool -> ET -> PS -> ET × PS
 | 0, _, a, s => (a, s)
 | n + 1, bare, a, s => if s.code = 0 /\ begT (tokS T e s) = true then (match zg T e R s with
  | (b, s1) => appF n false (if bare = true then kidT a b else eN 6 (tokS T e s).at_ nS [a, b]) s1) else (a, s)
def appS (s : PS) : ET × PS := match zg T e R s with
 | (a, s1) => appF T e R (T.length + 1) (decide ((tokS T e s).kind = 4)) a s1
def unF : Nat -> PS -> ET × PS
 | 0, s => (E0, s)
 | n + 1, s =>
  if isS T e s ⟨#[114, 97, 105, 115, 101]⟩ = true then (match unF n (advS s) with | (a, s1) => (eN 14 (tokS T e s).at_ nS [a], s1))
  else if isS T e s ⟨#[114, 101, 102]⟩ = true then (match unF n (advS s) with | (a, s1) => (eN 16 (tokS T e s).at_ nS [a], s1))
  else if isS T e s ⟨#[33]⟩ = true then (match unF n (advS s) with | (a, s1) => (eN 17 (tokS T e s).at_ nS [a], s1))
  else if isS T e s ⟨#[45]⟩ = true then (match unF n (advS s) with | (a, s1) => (eN 10 (tokS T e s).at_ ⟨#[45]⟩ [eN 1 (tokS T e s).at_ nS [], a], s1))
  else appS T e R s
def zo (L : List ByteArray) (Q : PS -> ET × PS) : Nat -> ET -> PS -> ET × PS
 | 0, a, s => (a, s)
 | n + 1, a, s => if s.code = 0 /\ inT (tokS T e s) L = true then (match Q (advS s) with
  | (b, s1) => zo L Q n (eN 10 (tokS T e s).at_ (tokS T e s).s [a, b]) s1) else (a, s)
def z7 (s : PS) : ET × PS := match unF T e R (T.length + 1) s with
 | (a, s1) => zo T e [⟨#[42]⟩, ⟨#[47]⟩, ⟨#[37]⟩] (unF T e R (T.length + 1)) (T.length + 1) a s1
def uH (s : PS) : ET × PS := match z7 T e R s with
 | (a, s1) => zo T e [⟨#[43]⟩, ⟨#[45]⟩, ⟨#[94]⟩] (z7 T e R) (T.length + 1) a s1
def wl : Nat -> PS -> ET × PS
 | 0, s => (E0, s)
 | n + 1, s => match uH T e R s with
  | (a, s1) => if isS T e s1 ⟨#[58, 58]⟩ = true then (match wl n (advS s1) with
    | (b, s2) => (consT (tokS T e s1).at_ a b, s2)) else (a, s1)
def cmpS (s : PS) : ET × PS := match wl T e R (T.length + 1) s with
 | (a, s1) => if inT (tokS T e s1) [⟨#[61]⟩, ⟨#[60, 62]⟩, ⟨#[60]⟩, ⟨#[60, 61]⟩] = true then (match wl T e R (T.length + 1) (advS s1) with
   | (b, s2) => (eN 10 (tokS T e s1).at_ (tokS T e s1).s [a, b], s2)) else (a, s1)
def setF : Nat -> PS -> ET × PS
 | 0, s => (E0, s)
 | n + 1, s => match cmpS T e R s with
  | (a, s1) => if isS T e s1 ⟨#[58, 61]⟩ = true then (match setF n (advS s1) with
    | (b, s2) => (eN 18 (tokS T e s1).at_ nS [a, b], s2)) else (a, s1)
def layP (p : PT) : MPat := ⟨Arb.lay PI.node 0 p⟩
def zr (s : PS) : PS := ⟨s.i, s.code, s.at_, s.vars, []⟩
def zl : Nat -> List MPat -> List ET -> PS -> List MPat × List ET × PS
 | 0, qs, l, s => (qs, l, s)
 | n + 1, qs, l, s => if s.code = 0 then (match patF T e 101 (zr s) with
  | (p, s1) => match R (xf T e s1 ⟨#[45, 62]⟩) with
   | (b, s2) => if isS T e s2 ⟨#[124]⟩ = true then zl n (qs ++ [layP p]) (l ++ [b]) (advS s2) else (qs ++ [layP p], l ++ [b], s2)) else (qs, l, s)
def wI (at_ : Int) (s : PS) : ET × PS := match R s with
 | (a, s1) => match zl T e R (T.length + 1) [] [a] (xf T e s1 ⟨#[119, 105, 116, 104]⟩) with
  | (qs, l, s2) => (.mk ⟨13, at_, 0, nS, qs⟩ l, xf T e s2 ⟨#[101, 110, 100]⟩)
def ue (s : PS) : ET × PS :=
 if s.code = 0 then
  (if isS T e s ⟨#[102, 117, 110]⟩ = true then (match xp T e (advS s) 3 with
   | (x, s1) => match R (xf T e s1 ⟨#[45, 62]⟩) with
    | (b, s2) => (eN 5 (tokS T e s).at_ x [b], s2))
  else if isS T e s ⟨#[108, 101, 116]⟩ = true then
   (if isS T e (advS s) ⟨#[114, 101, 99]⟩ = true then (match xp T e (advS (advS s)) 3 with
    | (f, s1) => match xp T e s1 3 with
     | (x, s2) => match R (xf T e s2 ⟨#[61]⟩) with
      | (a, s3) => match R (xf T e s3 ⟨#[105, 110]⟩) with
       | (b, s4) => (eN 8 (tokS T e s).at_ f [eN 5 (tokS T e s1).at_ x [a], b], s4))
   else match xp T e (advS s) 3 with
    | (x, s1) => match R (xf T e s1 ⟨#[61]⟩) with
     | (a, s2) => match R (xf T e s2 ⟨#[105, 110]⟩) with
      | (b, s3) => (eN 7 (tokS T e s).at_ x [a, b], s3))
  else if isS T e s ⟨#[105, 102]⟩ = true then (match R (advS s) with
   | (a, s1) => match R (xf T e s1 ⟨#[116, 104, 101, 110]⟩) with
    | (b, s2) => match R (xf T e s2 ⟨#[101, 108, 115, 101]⟩) with
     | (d, s3) => (eN 9 (tokS T e s).at_ nS [a, b, d], s3))
  else if isS T e s ⟨#[109, 97, 116, 99, 104]⟩ = true then wI T e R (tokS T e s).at_ (advS s)
  else if isS T e s ⟨#[116, 114, 121]⟩ = true then (match R (advS s) with
   | (a, s1) => match xp T e (xf T e s1 ⟨#[119, 105, 116, 104]⟩) 3 with
    | (x, s2) => match R (xf T e s2 ⟨#[45, 62]⟩) with
     | (b, s3) => (eN 15 (tokS T e s).at_ x [a, b], xf T e s3 ⟨#[101, 110, 100]⟩))
  else match setF T e R (T.length + 1) s with
   | (a, s1) => if isS T e s1 ⟨#[59]⟩ = true then (match R (advS s1) with
     | (b, s2) => (eN 19 (tokS T e s1).at_ nS [a, b], s2)) else (a, s1))
 else (E0, s)
end
def uC : Nat -> PS -> ET × PS
 | 0, s => if s.code = 0 then (E0, zm T e s (Zc (tokS T e s))) else (E0, s)
 | k + 1, s => ue T e (uC k) s
def WR : List MType × ET × PS := match yI T e (T.length + 1) [] ⟨0, 0, 0, [], []⟩ with
 | (ts, s1) => match uC T e 101 s1 with
  | (a, s2) => (ts, a, if s2.code = 0 /\ s2.i < T.length then xx T e s2 7 else s2)
end
def parT (T : List MTok) (e : Int) : MProgram × Int × Int := match WR T e with
 | (ts, a, s) => if s.code ≠ 0 then (⟨[], []⟩, s.code, s.at_)
  else if a.size > 600 \/ ts.length > 8 \/ (ts.any fun t => decide (t.cons.length > 8)) = true then (⟨[], []⟩, 10, 0)
  else (⟨ts, Arb.lay EI.node 0 a⟩, 0, 0)
end Go.Proofs.YtgcdbmcoendcdaaGreat
namespace Go.Proofs.YtgcdbmcoendcdaaGreat
open Go.RowKit
def rdD (T : List MTok) (e : Int) (s : PS) : List D := [.sl 4 (T.map MTok.enc), .s (.int .i64 s.i), .s (.int .i64 e), .s (.int .i64 s.code), .s (.int .i64 s.at_), .sl 1 (s.vars.map iE), .osl 9 1 (s.seen.map stE)]
def rdF (T : List MTok) (e : Int) (s : PS) : List D := [.sl 4 (T.map MTok.enc), .s (.int .i64 s.i), .s (.int .i64 e), .s (.int .i64 s.code), .s (.int .i64 s.at_), .sl 1 (s.vars.map iE), .sl 1 (s.seen.map stE)]
theorem xb (T : List MTok) (e : Int) (s : PS) : rdD T e s = [.sl 4 (T.map MTok.enc), .s (.int .i64 s.i), .s (.int .i64 e), .s (.int .i64 s.code), .s (.int .i64 s.at_), .sl 1 (s.vars.map iE), .osl 9 1 (s.seen.map stE)] := rfl
theorem xg (T : List MTok) (e : Int) (s : PS) : rdF T e s = [.sl 4 (T.map MTok.enc), .s (.int .i64 s.i), .s (.int .i64 e), .s (.int .i64 s.code), .s (.int .i64 s.at_), .sl 1 (s.vars.map iE), .sl 1 (s.seen.map stE)] := rfl
theorem xe (l : List Int) : xJ (l.map iE) = l.map iE := ye (fun _ => rfl) l
theorem Yk {T : List MTok} {e : Int} {s : PS} (h : ¬ (s.code = 0 /\ s.i < T.length)) : tokS T e s = ⟨0, 0, nS, e⟩ := by unfold tokS; rw [if_neg h]
theorem tok_at {T : List MTok} {e : Int} {s : PS} (h0 : s.code = 0) (h : s.i < T.length) : tokS T e s = T[s.i] := by
 unfold tokS; rw [if_pos ⟨h0, h⟩, List.getD_eq_getElem?_getD, List.getElem?_eq_getElem h]; rfl
theorem kF {k z : Int} (h : ¬ k = z) : (k == z) = false := by simpa using h
theorem kT {k z : Int} (h : k = z) : (k == z) = true := by simpa using h
theorem knF {k z : Int} (h : ¬ k = z) : (k != z) = true := by simpa using h
theorem knT {k z : Int} (h : k = z) : (k != z) = false := by simpa using h
theorem xz (t : MTok) : FCon Tryz.prog 197 [.ag t.enc] (fun r _ => r = .s (.string (sgT t))) := by
 rw [MTok.enc_eq]
 unfold sgT
 by_cases h : t.kind = 6
 ·have f := knT h
  rw [if_pos h]
  refine FI PM Tryz.func197 Tryz.ntmps197 [] rfl rfl ?_
  (have hWf := w1 @f; repeat' (first | refine zS ?_ | refine zI ?_ ?_ | exact zF0 | refine zD fun hb => ?_ | exact zC | refine zT ?_ | fail))
 ·have f := knF h
  rw [if_neg h]
  refine FI PM Tryz.func197 Tryz.ntmps197 [] rfl rfl ?_
  (have hWf := w1 @f; repeat' (first | refine zS ?_ | refine zI ?_ ?_ | exact zF0 | refine zD fun hb => ?_ | exact zC | refine zT ?_ | fail))
  all_goals rfl
theorem xj (T : List MTok) (e : Int) (s : PS) : FCon Tryz.prog 198 [.pt (rdF T e s)] (fun r _ => r = .ag (tokS T e s).enc) := by
 rw [xg]
 by_cases h0 : s.code = 0
 ·have f := knT h0
  by_cases hi : s.i < T.length
  ·rw [tok_at h0 hi]
   have hx := xh MTok.enc T s.i hi
   have he := MTok.enc_eq T[s.i]
   rw [he]
   refine FI PM Tryz.func198 Tryz.ntmps198 [(1, 15, [], [], (lin [] [0, 1, 2, 3, 4, 5, 6, 7, 8, 9, 10, 11, 12, 13, 14])), (3, 8, [], [], (lin [] [0, 1, 2, 3, 4, 5, 6, 7]))] rfl rfl ?_
   (have hWf := w3 @f @hx @he; repeat' (first | refine zS ?_ | refine zI ?_ ?_ | exact zF0 | refine zD fun hb => ?_ | exact zC | refine zT ?_ | fail))
  ·rw [Yk (fun q => hi q.2), MTok.enc_eq]
   refine FI PM Tryz.func198 Tryz.ntmps198 [(1, 15, [], [], (lin [] [0, 1, 2, 3, 4, 5, 6, 7, 8, 9, 10, 11, 12, 13, 14])), (3, 8, [], [], (lin [] [0, 1, 2, 3, 4, 5, 6, 7]))] rfl rfl ?_
   (have hWf := w1 @f; repeat' (first | refine zS ?_ | refine zI ?_ ?_ | exact zF0 | refine zD fun hb => ?_ | exact zC | refine zT ?_ | fail))
   all_goals rfl
 ·have f := knF h0
  rw [Yk (fun q => h0 q.1), MTok.enc_eq]
  refine FI PM Tryz.func198 Tryz.ntmps198 [(1, 15, [], [], (lin [] [0, 1, 2, 3, 4, 5, 6, 7, 8, 9, 10, 11, 12, 13, 14])), (3, 8, [], [], (lin [] [0, 1, 2, 3, 4, 5, 6, 7]))] rfl rfl ?_
  (have hWf := w1 @f; repeat' (first | refine zS ?_ | refine zI ?_ ?_ | exact zF0 | refine zD fun hb => ?_ | exact zC | refine zT ?_ | fail))
  all_goals rfl
theorem xw (T : List MTok) (e : Int) (s : PS) (x : ByteArray) : FCon Tryz.prog 128 [.pt (rdF T e s), .s (.string x)] (fun r _ => r = .s (.bool (isS T e s x))) := by
 have ht := xj T e s
 have hs := xz (tokS T e s)
 have he : isS T e s x = ((sgT (tokS T e s)).toList == x.toList) := rfl
 rw [he]
 generalize tokS T e s = t at *
 rw [xg, MTok.enc_eq] at ht
 rw [MTok.enc_eq] at hs
 rw [xg]
 refine FI PM Tryz.func128 Tryz.ntmps128 [] rfl rfl ?_
 (have hWf := f0; repeat' (first | refine zS ?_ | refine zI ?_ ?_ | refine zK (ht) ?_ | refine zK (hs) ?_ | exact zF0 | refine zD fun hb => ?_ | exact zC | refine zT ?_ | fail))
theorem yz (T : List MTok) (e : Int) (s : PS) (c : Int) : FCon Tryz.prog 131 [.opt (rdD T e s), .s (.int .i64 c)] (fun r o => r = .tup [] /\ o = [.opt (rdD T e (xx T e s c)), .un]) := by
 rw [xb, xb]
 unfold xx
 by_cases h0 : s.code = 0
 ·have f := knT h0
  rw [if_pos h0]
  by_cases hi : s.i < T.length
  ·have hx := xh MTok.enc T s.i hi
   have he := MTok.enc_eq T[s.i]
   have hg : T.getD s.i ⟨0, 0, nS, 0⟩ = T[s.i] := by rw [List.getD_eq_getElem?_getD, List.getElem?_eq_getElem hi]; rfl
   rw [if_pos hi, hg]
   refine FI PM Tryz.func131 Tryz.ntmps131 [(3, 9, [], [], (lin [] [0, 1, 2, 3, 4, 5, 6, 7, 8])), (4, 12, [], [], (lin [] [0, 1, 2, 3, 4, 5, 6, 7, 8, 9, 10, 11]))] rfl rfl ?_
   (have hWf := w3 @f @hx @he; repeat' (first | refine zS ?_ | refine zI ?_ ?_ | exact zF0 | refine zD fun hb => ?_ | exact zC | refine zT ?_ | fail))
   all_goals rfl
  ·rw [if_neg hi]
   refine FI PM Tryz.func131 Tryz.ntmps131 [(3, 9, [], [], (lin [] [0, 1, 2, 3, 4, 5, 6, 7, 8])), (4, 12, [], [], (lin [] [0, 1, 2, 3, 4, 5, 6, 7, 8, 9, 10, 11]))] rfl rfl ?_
   (have hWf := w1 @f; repeat' (first | refine zS ?_ | refine zI ?_ ?_ | exact zF0 | refine zD fun hb => ?_ | exact zC | refine zT ?_ | fail))
   all_goals rfl
 ·have f := knF h0
  rw [if_neg h0]
  refine FI PM Tryz.func131 Tryz.ntmps131 [(3, 9, [], [], (lin [] [0, 1, 2, 3, 4, 5, 6, 7, 8])), (4, 12, [], [], (lin [] [0, 1, 2, 3, 4, 5, 6, 7, 8, 9, 10, 11]))] rfl rfl ?_
  (have hWf := w1 @f; repeat' (first | refine zS ?_ | refine zI ?_ ?_ | exact zF0 | refine zD fun hb => ?_ | exact zC | refine zT ?_ | fail))
  all_goals rfl
theorem x5 (T : List MTok) (e : Int) (s : PS) (x : ByteArray) : isS T e s x = ((sgT (tokS T e s)).toList == x.toList) := rfl
theorem xK {T : List MTok} {e : Int} {s : PS} (h : (tokS T e s).kind ≠ 0) : s.code = 0 /\ s.i < T.length := by
 refine Classical.byContradiction fun q => h ?_
 rw [Yk q]
theorem Wd {t : MTok} {x : ByteArray} (h : isT t x = true) (hx : x.toList ≠ []) : t.kind = 6 /\ t.s.toList = x.toList := by
 unfold isT sgT at h
 split at h
 ·rename_i k; exact ⟨k, by simpa using h⟩
 ·exfalso
  have : nS.toList = [] := by rw [ByteArray.toList_eq]; rfl
  rw [this] at h
  simp only [beq_iff_eq] at h
  exact hx h.symm
theorem xt {T : List MTok} {e : Int} {s : PS} {x : ByteArray} (h : isS T e s x = true) (hx : x.toList ≠ []) : s.code = 0 /\ s.i < T.length := xK (by rw [(Wd h hx).1]; decide)
theorem xa {l : List UInt8} (h : l ≠ []) : (⟨l.toArray⟩ : ByteArray).toList ≠ [] := by rw [ByteArray.toList_eq]; simpa using h
theorem xy (T : List MTok) (e : Int) (s : PS) (hT : T.length <= 1000000) (x : ByteArray) (hx : x.toList ≠ []) : FCon Tryz.prog 200 [.opt (rdD T e s), .s (.string x)] (fun r o => r = .tup [] /\ o = [.opt (rdD T e (xf T e s x)), .un]) := by
 have hi := xw T e s x
 have hf := yz T e s 7
 unfold xf
 cases h : isS T e s x with
 | true =>
  have := (xt h hx).2
  rw [h] at hi
  rw [if_pos rfl]
  unfold advS
  rw [xg] at hi
  rw [xb, xb]
  refine FI PM Tryz.func200 Tryz.ntmps200 [] rfl rfl ?_
  (have hWf := w2 @xe @xd; repeat' (first | refine zS ?_ | refine zI ?_ ?_ | refine zK (hi) ?_ | exact zF0 | refine zD fun hb => ?_ | exact zC | refine zT ?_ | fail))
  all_goals rfl
 | false =>
  rw [h] at hi
  rw [if_neg (by decide)]
  rw [xg] at hi
  rw [xb, xb] at hf
  rw [xb, xb]
  refine FI PM Tryz.func200 Tryz.ntmps200 [] rfl rfl ?_
  (have hWf := w2 @xe @xd; repeat' (first | refine zS ?_ | refine zI ?_ ?_ | refine zK (hi) ?_ | refine zH hf ?_ | exact zF0 | refine zD fun hb => ?_ | exact zC | refine zT ?_ | fail))
  all_goals rfl
theorem yq (T : List MTok) (e : Int) (s : PS) (hT : T.length <= 1000000) (k : Int) (hk : k ≠ 0) : FCon Tryz.prog 201 [.opt (rdD T e s), .s (.int .i64 k)] (fun r o => r = .s (.string (xp T e s k).1) /\ o = [.opt (rdD T e (xp T e s k).2), .un]) := by
 have ht := xj T e s
 have hf := yz T e s 7
 unfold xp
 have hl := xK (T := T) (e := e) (s := s)
 generalize tokS T e s = t at *
 rw [MTok.enc_eq, xg] at ht
 by_cases h : t.kind = k
 ·have f := knT h
  rw [if_pos h]
  have := (hl (by rw [h]; exact hk)).2
  show FCon _ _ _ (fun r o => r = .s (.string t.s) /\ o = [.opt (rdD T e (advS s)), .un])
  unfold advS
  rw [xb, xb]
  refine FI PM Tryz.func201 Tryz.ntmps201 [] rfl rfl ?_
  (have hWf := w3 @xe @xd @f; repeat' (first | refine zS ?_ | refine zI ?_ ?_ | refine zK (ht) ?_ | exact zF0 | refine zD fun hb => ?_ | exact zC | refine zT ?_ | fail))
  all_goals rfl
 ·have f := knF h
  rw [if_neg h]
  show FCon _ _ _ (fun r o => r = .s (.string nS) /\ o = [.opt (rdD T e (xx T e s 7)), .un])
  rw [xb, xb] at hf
  rw [xb, xb]
  refine FI PM Tryz.func201 Tryz.ntmps201 [] rfl rfl ?_
  (have hWf := w3 @xe @xd @f; repeat' (first | refine zS ?_ | refine zI ?_ ?_ | refine zK (ht) ?_ | refine zH hf ?_ | exact zF0 | refine zD fun hb => ?_ | exact zC | refine zT ?_ | fail))
  all_goals rfl
end Go.Proofs.YtgcdbmcoendcdaaGreat
