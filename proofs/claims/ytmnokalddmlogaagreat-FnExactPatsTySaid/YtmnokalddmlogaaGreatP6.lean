/- Parts of the proof, laid together: InsB, FiB, UniB, UniP, HGrow, HCat. -/
import Derived.Deep.LoopGhost
import Derived.Deep.RegionLaw
import Derived.Deep.RegionWith
import Derived.Deep.Slices
import Derived.Laws.AppendOwn
import Derived.Laws.CopyRow
import Derived.Laws.Cover3
import Derived.Laws.EntriesVeiled
import Derived.Laws.Externs
import Derived.Laws.IdiomStrings
import Derived.Laws.StructEq
import Derived.Lib.AppendStr
import Derived.Lib.AppendZeros
import Derived.Lib.AppendZerosOnto
import Derived.Lib.Hide
import Derived.Lib.Overlaps
import Derived.ProofKit
import Derived.Test.YtmnokalddmlogaaGreatProg
import Derived.WalkKit
import Derived.Test.YtmnokalddmlogaaGreatP5
set_option linter.unusedSimpArgs false
set_option linter.unusedVariables false
set_option maxRecDepth 100000
set_option maxHeartbeats 8000000
namespace Go.Proofs.YtmnokalddmlogaaGreat
section
open Go.RowKit
theorem v8 {P : Program} (w : World) (dT sT ty elem : TypeId) (g o dLen dCap : Nat) (a : Addr) (sLen sCap : Nat) (cur : Array Value) (t : TypeId) (cs : List Value)
  (hu : P.underlying dT = some (.slice elem)) (hs : (P.info? elem).map (·.size) = some 2)
  (hg : w.heap[g]? = some (.cells cur t (0, 0))) (hn : cs.length = Nat.min sLen dLen * 2)
  (hsrc : ∀ j v, cs[j]? = some v -> w.cell? (a.add j) = some v) (hfit : o + cs.length <= cur.size) (h1 : ∀ v ∈ cs, v.oneCell' = true) :
  (Builtin.copy_ #[dT, sT] ty #[.slice (some ⟨g, o, none⟩) dLen dCap, .slice (some a) sLen sCap]).run P w =
   .ok (goInt (Nat.min sLen dLen)) (w.setRow g (cur.toList.take o ++ cs ++ cur.toList.drop (o + cs.length)).toArray) := by
 have hl := run_loadCells_list (P := P) w a cs hsrc
 have hst := run_storeCells_at P g o t cs 0 cur w hg (by simpa using hfit) h1
 cases hq : P.info? elem with
 | none => simp [hq] at hs
 | some i =>
  have hi : i.size = 2 := by simpa [hq] using hs
  simp [Builtin.copy_, run_underlying hu, Builtin.lenOf, Builtin.firstCells, sizeOf, typeInfo, hq, hi, <- hn, hl, hst]
theorem Xd {P : Program} (w : World) {ops : Array Oper} {rest : List Oper} {o : Oper} {a : Act} {Q : Exit -> Act -> World -> Prop} (hgd : o.guard = none) (d s : Operand) (t t' : TypeId)
  (ho : o.op = .call { callee := .builtin .copy, args := #[d, s], argTypes := #[t, t'] }) (v u : Value) (hd : a.eval d = v) (hs : a.eval s = u) {v' : Value} {w' : World}
  (hr : (Builtin.copy_ #[t, t'] o.type #[v, u]).run P w = .ok v' w') (h : wpList P ops Q rest (a.put o.dst v') w') : wpList P ops Q (o :: rest) a w :=
 wpList_plain hgd fun K hK => by
  unfold Oper.wp execOp
  simp only [ho, resolve, invoke, builtin, Sem.run_bind, Sem.run_pure, Result.andThen_ok, List.map_toArray, List.map_cons, List.map_nil, hd, hs, hr]
  exact hK _ _ h
theorem X9 {P : Program} {ops : Array Oper} {o : Oper} {a : Act} {w : World} {K : Act -> World -> Prop} {Q : Exit -> Act -> World -> Prop} {E : Prop}
  (hg : o.guard = none) (d x : Operand) (dT sT : TypeId) (hop : o.op = Op.call { callee := Callee.builtin Builtin.copy, args := #[d, x], argTypes := #[dT, sT] })
  (v u : Value) (hd : a.eval d = v) (hx : a.eval x = u) {v' : Value} {w' : World} (hr : (Builtin.copy_ #[dT, sT] o.type #[v, u]).run P w = .ok v' w') (hK : K (a.put o.dst v') w') :
  if Region.wanted o (yielded ops a.tmps) = true then Oper.wp P o a w K Q else E := by
 have hw : Region.wanted o (yielded ops a.tmps) = true := by simp [Region.wanted, hg]
 rw [if_pos hw]
 unfold Oper.wp
 simp [execOp, hop, resolve, invoke, builtin, hd, hx, hr, Result.andThen]
 exact hK
theorem cell_row {w : World} {b : Nat} {cs : Array Value} {e : TypeId} (h : w.heap[b]? = some (.cells cs e (0, 0))) (j : Nat) : w.cell? ⟨b, j, none⟩ = cs[j]? := by simp [World.cell?, h]
theorem yE {w : World} {b : Nat} {cs : Array Value} {e : TypeId} (h : w.heap[b]? = some (.cells cs e (0, 0))) (o j : Nat) : w.cell? ((⟨b, o, none⟩ : Addr).add j) = cs[o + j]? := by rw [Addr.add_lit]; exact cell_row h _
section
variable (w : World) (b vb n c vc : Nat) (cs vs : Array Value)
theorem ins_er (hb : w.heap[b]? = some (.cells cs 160 (0, 0))) (hc : cs.size = c * 2) (hv : w.heap[vb]? = some (.cells vs 160 (0, 0)))
  (news : List Value) (hnl : news.length = 2) (hnv : ∀ (j : Nat) v, news[j]? = some v -> vs[j]? = some v) (h1 : ∀ v ∈ news, v.oneCell' = true) (hroom : n + 1 <= c) (hmax : c <= maxLen) :
  Calls Tryz.prog 193 #[.slice (some ⟨b, 0, none⟩) n c, .int .i64 n, .slice (some ⟨vb, 0, none⟩) 1 vc] w fun e w' =>
   e = .returned (.slice (some ⟨b, 0, none⟩) (n + 1) c) /\ w' = w.setRow b (cs.toList.take (n * 2) ++ news ++ cs.toList.drop (n * 2 + 2)).toArray := by
 obtain ⟨ht, i, zv, hi, hz, hsz, hby, hzs, hk0, hz1, -, -⟩ := y7 Zf
 have hrun : ∀ ty, (Builtin.append_ #[75, 75] ty #[.slice (some ⟨b, 0, none⟩) n c, .slice (some ⟨vb, 0, none⟩) 1 vc]).run Tryz.prog w = _ := fun ty =>
  run_append_room (P := Tryz.prog) w _ ty _ i ht hi b n c cs hb ⟨vb, 0, none⟩ 1 vc news (by rw [hsz]; exact hnl) (fun j v hj => by rw [yE hv, Nat.zero_add]; exact hnv j v hj) h1 hroom (by rw [hsz, hnl, hc]; omega)
 rw [hsz, hnl] at hrun
 go_enter Tryz.func193, Tryz.ntmps193
 go_wp2_with (at_builtin; refine Lib.wpList_append_run _ rfl _ _ _ _ rfl _ _ rfl rfl _ _ (hrun _) ?_)
 go_ret
 exact ⟨rfl, by simp⟩
theorem ins_eg (base : Option Addr) (hbase : (base = none /\ n = 0 /\ c = 0) \/ (base = some ⟨b, 0, none⟩ /\ w.heap[b]? = some (.cells cs 160 (0, 0)) /\ cs.size = c * 2 /\ n <= c)) (hv : w.heap[vb]? = some (.cells vs 160 (0, 0)))
  (news : List Value) (hnl : news.length = 2) (hnv : ∀ (j : Nat) v, news[j]? = some v -> vs[j]? = some v) (h1 : ∀ v ∈ news, v.oneCell' = true) (hroom : c < n + 1) (hbig : n <= 1000000000) :
  Calls Tryz.prog 193 #[.slice base n c, .int .i64 n, .slice (some ⟨vb, 0, none⟩) 1 vc] w fun e w' =>
   ∃ zs : Array Value, zs.size = (grownCap w (n + 1) c 160 - (n + 1)) * 2 /\ e = .returned (.slice (some ⟨w.heap.size, 0, none⟩) (n + 1) (grownCap w (n + 1) c 160)) /\ w' = w.drew.alloc (.cells ((cs.toList.take (n * 2)).toArray ++ news.toArray ++ zs) 160) := by
 obtain ⟨ht, i, zv, hi, hz, hsz, hby, hzs, hk0, hz1, -, -⟩ := y7 Zf
 have hnews : ∀ (j : Nat) v, news[j]? = some v -> w.cell? ((⟨vb, 0, none⟩ : Addr).add j) = some v := fun j v hj => by rw [yE hv, Nat.zero_add]; exact hnv j v hj
 obtain ⟨zs, hzl, hrun⟩ : ∃ zs : Array Value, zs.size = (grownCap w (n + 1) c 160 - (n + 1)) * 2 /\ ∀ ty, (Builtin.append_ #[75, 75] ty #[.slice base n c, .slice (some ⟨vb, 0, none⟩) 1 vc]).run Tryz.prog w = .ok (.slice (some ⟨w.heap.size, 0, none⟩) (n + 1) (grownCap w (n + 1) c 160)) (w.drew.alloc (.cells ((cs.toList.take (n * 2)).toArray ++ news.toArray ++ zs) 160)) := by
  refine ⟨Builtin.zeroCells zv.cells (grownCap w (n + 1) c 160 - (n + 1)), by rw [size_zeroCells, hzs], fun ty => ?_⟩
  rcases hbase with ⟨rfl, rfl, rfl⟩ | ⟨rfl, h2, h3, h4⟩
  ·have := run_append_nil (P := Tryz.prog) w _ ty _ i zv ht hi hz ⟨vb, 0, none⟩ 1 vc news (by rw [hsz]; exact hnl) hnews (by omega) (by omega) (by rw [hby]; omega)
   simpa using this
  ·exact run_append_grow (P := Tryz.prog) w _ ty _ i zv ht hi hz ⟨b, 0, none⟩ n c (cs.toList.take (n * 2)) (by rw [hsz, List.length_take, Array.length_toList, h3]; simp only [Nat.min_def]; split <;> omega) (fun j v hj => by
    rw [yE h2, Nat.zero_add]
    rw [List.getElem?_take] at hj
    split at hj
    ·rwa [Array.getElem?_toList] at hj
    ·cases hj) ⟨vb, 0, none⟩ 1 vc news (by rw [hsz]; exact hnl) hnews (by omega) (by omega) (growslice_fits (by omega) (by rw [hby]; omega))
 clear hbase
 refine (?_ : Calls Tryz.prog 193 _ w fun e w' => e = .returned (.slice (some ⟨w.heap.size, 0, none⟩) (n + 1) (grownCap w (n + 1) c 160)) /\ w' = w.drew.alloc (.cells ((cs.toList.take (n * 2)).toArray ++ news.toArray ++ zs) 160)).mono fun e w' h => ⟨zs, hzl, h.1, h.2⟩
 go_enter Tryz.func193, Tryz.ntmps193
 cases base with
 | none => 
  go_wp2_with (at_builtin; refine Lib.wpList_append_run _ rfl _ _ _ _ rfl _ _ rfl rfl _ _ (hrun _) ?_)
  go_ret
  exact ⟨rfl, rfl⟩
 | some a =>
  obtain ⟨ab, ao, asp⟩ := a
  go_wp2_with (at_builtin; refine Lib.wpList_append_run _ rfl _ _ _ _ rfl _ _ rfl rfl _ _ (hrun _) ?_)
  all_goals (go_ret; exact ⟨rfl, rfl⟩)
theorem ins_ir (i : Nat) (hin : i < n) (hb : w.heap[b]? = some (.cells cs 160 (0, 0))) (hc : cs.size = c * 2) (hv : w.heap[vb]? = some (.cells vs 160 (0, 0))) (hvb : vb ≠ b)
  (news : List Value) (hnl : news.length = 2) (hnv : ∀ (j : Nat) v, news[j]? = some v -> vs[j]? = some v) (h1 : ∀ v ∈ news, v.oneCell' = true) (h1c : ∀ v ∈ (cs.toList.drop (i * 2)).take ((n - i) * 2), v.oneCell' = true) (hroom : n + 1 <= c) (hn9 : n <= 1000000000) :
  Calls Tryz.prog 193 #[.slice (some ⟨b, 0, none⟩) n c, .int .i64 i, .slice (some ⟨vb, 0, none⟩) 1 vc] w fun e w' =>
   e = .returned (.slice (some ⟨b, 0, none⟩) (n + 1) c) /\ ∃ cs1 : List Value, cs1 = cs.toList.take ((i + 1) * 2) ++ (cs.toList.drop (i * 2)).take ((n - i) * 2) ++ cs.toList.drop ((i + 1) * 2 + (n - i) * 2) /\ w' = (w.drew.setRow b cs1.toArray).setRow b (cs1.take (i * 2) ++ news ++ cs1.drop (i * 2 + 2)).toArray := by
 obtain ⟨ht, i0, zv, hi, hz, hsz, hby, hzs, hk0, hz1, -, -⟩ := y7 Zf
 have hcl : cs.toList.length = c * 2 := by rw [Array.length_toList, hc]
 have hov : ∀ lb cb o, (callFunc 229 #[.slice (some ⟨vb, 0, none⟩) 1 vc, .slice (some ⟨b, o, none⟩) lb cb]).run Tryz.prog w = .ok (.value (.bool false)) w := fun lb cb o => by
  rw [run_callFunc_extern Tryz.func229 (by kernel_rfl) (by kernel_rfl) (by kernel_rfl) (e := Extern.SlicesOverlaps.overlaps #[75, 75] #[4]) (by kernel_rfl),
   Lib.run_overlaps_apart w 75 4 160 ht 2 (zf Zf) ⟨vb, 0, none⟩ ⟨b, o, none⟩ 1 vc lb cb hvb 160 160 vs.size cs.size (by simp [World.shape?, hv]) (by simp [World.shape?, hb]) (by omega) (by simp [World.frozen?, hv]) (by simp [World.frozen?, hv])]
  rfl
 have hz2 : ¬ ((i : Int) = (n : Int)) := by omega
 have hz3 : ¬ ((c : Int) < (n : Int) + 1) := by omega
 have hw1 : IntKind.i64.wrap ((i : Int) + 1) = (i : Int) + 1 := by rw [IntKind.wrap_i64]; omega
 have htn : ((i : Int) + 1).toNat = i + 1 := by omega
 have hb3 : (i : Int) + 1 <= (n : Int) + 1 := by omega
 have hb5 : (i : Int) <= (n : Int) + 1 := by omega
 have hb1 : (0 : Int) <= (i : Int) + 1 := by omega
 have hb2 : ¬ (c = i + 1) := by omega
 have hb4 : ¬ (c = i) := by omega
 obtain ⟨mid, hmid⟩ : ∃ mid, mid = (cs.toList.drop (i * 2)).take ((n - i) * 2) := ⟨_, rfl⟩
 have hml : mid.length = (n - i) * 2 := by rw [hmid, List.length_take, List.length_drop, hcl]; simp only [Nat.min_def]; split <;> omega
 rw [<- hmid] at h1c ⊢
 have hsize : (Tryz.prog.info? 160).map (·.size) = some 2 := by rw [hi]; simp [hsz]
 have hcp1 : ∀ ty dc sc, (Builtin.copy_ #[75, 75] ty #[.slice (some ⟨b, (i + 1) * 2, none⟩) (n - i) dc, .slice (some ⟨b, i * 2, none⟩) (n + 1 - i) sc]).run Tryz.prog w.drew = .ok (goInt (Nat.min (n + 1 - i) (n - i))) (w.drew.setRow b (cs.toList.take ((i + 1) * 2) ++ mid ++ cs.toList.drop ((i + 1) * 2 + mid.length)).toArray) := fun ty dc sc =>
  v8 w.drew _ _ ty 160 b ((i + 1) * 2) (n - i) dc ⟨b, i * 2, none⟩ (n + 1 - i) sc cs _ mid ht hsize hb (by rw [hml]; simp only [Nat.min_def]; split <;> omega) (fun j v hj => by
   rw [yE (w := w.drew) hb, <- Array.getElem?_toList]
   rw [hmid, List.getElem?_take] at hj
   split at hj
   ·rwa [List.getElem?_drop] at hj
   ·cases hj) (by rw [hml, hc]; omega) h1c
 rw [hml] at hcp1
 obtain ⟨cs1, hcs1⟩ : ∃ cs1, cs1 = cs.toList.take ((i + 1) * 2) ++ mid ++ cs.toList.drop ((i + 1) * 2 + (n - i) * 2) := ⟨_, rfl⟩
 rw [<- hcs1] at hcp1
 have hc1l : cs1.length = c * 2 := by rw [hcs1, List.length_append, List.length_append, List.length_take, List.length_drop, hcl, hml]; simp only [Nat.min_def]; split <;> omega
 have hW : (w.drew.setRow b cs1.toArray).heap[b]? = some (.cells cs1.toArray 160 (0, 0)) := setRow_heap w.drew b cs _ _ _ hb
 have hWv : (w.drew.setRow b cs1.toArray).heap[vb]? = some (.cells vs 160 (0, 0)) := by rw [setRow_other _ _ _ _ hvb]; exact hv
 have hcp2 : ∀ ty dc, (Builtin.copy_ #[75, 75] ty #[.slice (some ⟨b, i * 2, none⟩) (n + 1 - i) dc, .slice (some ⟨vb, 0, none⟩) 1 vc]).run Tryz.prog (w.drew.setRow b cs1.toArray) = .ok (goInt (Nat.min 1 (n + 1 - i))) ((w.drew.setRow b cs1.toArray).setRow b (cs1.toArray.toList.take (i * 2) ++ news ++ cs1.toArray.toList.drop (i * 2 + news.length)).toArray) := fun ty dc =>
  v8 (w.drew.setRow b cs1.toArray) _ _ ty 160 b (i * 2) (n + 1 - i) dc ⟨vb, 0, none⟩ 1 vc cs1.toArray _ news ht hsize hW (by rw [hnl]; simp only [Nat.min_def]; split <;> omega) (fun j v hj => by
   rw [yE hWv, Nat.zero_add]; exact hnv j v hj) (by rw [hnl, List.size_toArray, hc1l]; omega) h1
 rw [hnl] at hcp2
 refine (?_ : Calls Tryz.prog 193 _ w fun e w' => e = .returned (.slice (some ⟨b, 0, none⟩) (n + 1) c) /\ w' = (w.drew.setRow b cs1.toArray).setRow b (cs1.toArray.toList.take (i * 2) ++ news ++ cs1.toArray.toList.drop (i * 2 + 2)).toArray).mono fun e w' h => ⟨h.1, cs1, hcs1, h.2⟩
 have HC := Lib.hid hcs1; clear hcs1
 have HM := Lib.hid hmid; clear hmid
 have mixed := mixed
 go_enter Tryz.func193, Tryz.ntmps193
 go_wp2_with (simp only [hov])
 go_region_law (refine X9 rfl _ _ 75 75 rfl _ _ (by simp [Act.eval, Act.put]) (by simp [Act.eval, Act.put]) (hcp1 _ _ _) ?_)
 go_wp2_with (at_builtin; refine Xd _ rfl _ _ 75 75 rfl _ _ rfl rfl (hcp2 _ _) ?_)
 go_ret
 exact ⟨rfl, by simp⟩
theorem ins_ig (i : Nat) (hin : i < n) (hb : w.heap[b]? = some (.cells cs 160 (0, 0))) (hc : cs.size = c * 2) (hv : w.heap[vb]? = some (.cells vs 160 (0, 0)))
  (news : List Value) (hnl : news.length = 2) (hnv : ∀ (j : Nat) v, news[j]? = some v -> vs[j]? = some v) (h1 : ∀ v ∈ news, v.oneCell' = true) (h1c : ∀ v ∈ (cs.toList.drop (i * 2)).take ((n - i) * 2), v.oneCell' = true) (hnc : n <= c) (hroom : c < n + 1) (hmax : c <= 1000000000) :
  Calls Tryz.prog 193 #[.slice (some ⟨b, 0, none⟩) n c, .int .i64 i, .slice (some ⟨vb, 0, none⟩) 1 vc] w fun e w' =>
   e = .returned (.slice (some ⟨w.heap.size, 0, none⟩) (n + 1) (grownCap w (n + 1) c 160)) /\ ∃ (zs : List Value) (row0 row1 : List Value), zs.length = (n + 1 - i) * 2 + (grownCap w (n + 1) c 160 - (n + 1)) * 2 /\ row0 = cs.toList.take (i * 2) ++ zs /\
    row1 = row0.take (i * 2) ++ news ++ row0.drop (i * 2 + 2) /\ w' = (((w.drew.alloc (.cells row0.toArray 160)).setRow w.heap.size row1.toArray).drew).setRow w.heap.size (row1.take ((i + 1) * 2) ++ (cs.toList.drop (i * 2)).take ((n - i) * 2) ++ row1.drop ((i + 1) * 2 + (n - i) * 2)).toArray := by
 obtain ⟨ht, i0, zv, hi, hz, hsz, hby, hzs, hk0, hz1, -, -⟩ := y7 Zf
 have hti : Tryz.prog.underlying 3 = some (.int .i64) := by kernel_rfl
 have hcl : cs.toList.length = c * 2 := by rw [Array.length_toList, hc]
 have hz2 : ¬ ((i : Int) = (n : Int)) := by omega
 have hz3 : (c : Int) < (n : Int) + 1 := by omega
 have hsize : (Tryz.prog.info? 160).map (·.size) = some 2 := by rw [hi]; simp [hsz]
 obtain ⟨G, hG⟩ : ∃ G, G = grownCap w (n + 1) c 160 := ⟨_, rfl⟩
 have hGe : n + 1 <= G := by rw [hG]; exact grownCap_ge w (n + 1) c _
 obtain ⟨zs, hzl, hrz⟩ : ∃ zs : List Value, zs.length = (n + 1 - i) * 2 + (G - (n + 1)) * 2 /\ ∀ ty, (Builtin.append_ #[75, 3] ty #[.slice (some ⟨b, 0, none⟩) i c, .int .i64 ((n : Int) + 1 - (i : Int))]).run Tryz.prog w =
   .ok (.slice (some ⟨w.heap.size, 0, none⟩) (n + 1) G) (w.drew.alloc (.cells (cs.toList.take (i * 2) ++ zs).toArray 160)) := by
  refine ⟨(Builtin.zeroCells zv.cells (n + 1 - i)).toList ++ (Builtin.zeroCells zv.cells (G - (n + 1))).toList, by rw [List.length_append, Array.length_toList, Array.length_toList, size_zeroCells, size_zeroCells, hzs], fun ty => ?_⟩
  have hold : (Builtin.firstCells i0.size i (.slice (some ⟨b, 0, none⟩) i c)).run Tryz.prog w.drew = .ok (cs.toList.take (i * 2)).toArray w.drew :=
   run_firstCells_some (P := Tryz.prog) w.drew i0.size i ⟨b, 0, none⟩ i c (cs.toList.take (i * 2)) (by rw [hsz, List.length_take, hcl]; simp only [Nat.min_def]; split <;> omega) (fun j v hj => by
    rw [yE (w := w.drew) hb, Nat.zero_add]
    rw [List.getElem?_take] at hj
    split at hj
    ·rwa [Array.getElem?_toList] at hj
    ·cases hj)
  have h := Lib.run_append_grow_zeros (P := Tryz.prog) w _ _ ty _ i0 zv .i64 .i64 ht hti hi hz (some ⟨b, 0, none⟩) i c _ hold (n + 1 - i) (by omega) (by omega) (by omega) (by omega) (by rw [hby]; omega) (by rw [hby]; exact growslice_fits (by omega) (by omega))
  have e1 : i + (n + 1 - i) = n + 1 := by omega
  have e2 : (n : Int) + 1 - (i : Int) = ((n + 1 - i : Nat) : Int) := by omega
  rw [e1, <- hG] at h
  rw [e2, h]
  congr 3
  simp
 obtain ⟨row0, hrow0⟩ : ∃ row0, row0 = cs.toList.take (i * 2) ++ zs := ⟨_, rfl⟩
 rw [<- hrow0] at hrz
 have h0l : row0.length = G * 2 := by rw [hrow0, List.length_append, List.length_take, hcl, hzl]; simp only [Nat.min_def]; split <;> omega
 obtain ⟨W1, hW1⟩ : ∃ W1, W1 = w.drew.alloc (.cells row0.toArray 160) := ⟨_, rfl⟩
 rw [<- hW1] at hrz
 have hbw : b < w.heap.size := (Array.getElem?_eq_some_iff.1 hb).1
 have hvw : vb < w.heap.size := (Array.getElem?_eq_some_iff.1 hv).1
 have hW1n : W1.heap[w.heap.size]? = some (.cells row0.toArray 160 (0, 0)) := by rw [hW1]; exact heap_alloc_new w.drew _
 have hW1o : ∀ b', b' < w.heap.size -> W1.heap[b']? = w.heap[b']? := fun b' q => by rw [hW1]; exact Below.heap_alloc w.drew _ _ q
 have hcp1 : ∀ ty dc, (Builtin.copy_ #[75, 75] ty #[.slice (some ⟨w.heap.size, i * 2, none⟩) (n + 1 - i) dc, .slice (some ⟨vb, 0, none⟩) 1 vc]).run Tryz.prog W1 = .ok (goInt (Nat.min 1 (n + 1 - i))) (W1.setRow w.heap.size (row0.toArray.toList.take (i * 2) ++ news ++ row0.toArray.toList.drop (i * 2 + news.length)).toArray) := fun ty dc =>
  v8 W1 _ _ ty 160 w.heap.size (i * 2) (n + 1 - i) dc ⟨vb, 0, none⟩ 1 vc row0.toArray _ news ht hsize hW1n (by rw [hnl]; simp only [Nat.min_def]; split <;> omega) (fun j v hj => by
   rw [yE (w := W1) ((hW1o vb hvw).trans hv), Nat.zero_add]; exact hnv j v hj) (by rw [hnl, List.size_toArray, h0l]; omega) h1
 rw [hnl] at hcp1
 simp only [List.toList_toArray] at hcp1
 obtain ⟨row1, hrow1⟩ : ∃ row1, row1 = row0.take (i * 2) ++ news ++ row0.drop (i * 2 + 2) := ⟨_, rfl⟩
 rw [<- hrow1] at hcp1
 have h1l : row1.length = G * 2 := by rw [hrow1, List.length_append, List.length_append, List.length_take, List.length_drop, h0l, hnl]; simp only [Nat.min_def]; split <;> omega
 obtain ⟨W2, hW2⟩ : ∃ W2, W2 = W1.setRow w.heap.size row1.toArray := ⟨_, rfl⟩
 rw [<- hW2] at hcp1
 have hW2n : W2.heap[w.heap.size]? = some (.cells row1.toArray 160 (0, 0)) := by rw [hW2]; exact setRow_heap W1 _ _ _ _ _ hW1n
 have hW2o : ∀ b', b' < w.heap.size -> W2.heap[b']? = w.heap[b']? := fun b' q => by rw [hW2, setRow_other _ _ _ _ (by omega)]; exact hW1o b' q
 obtain ⟨mid, hmid⟩ : ∃ mid, mid = (cs.toList.drop (i * 2)).take ((n - i) * 2) := ⟨_, rfl⟩
 have hml : mid.length = (n - i) * 2 := by rw [hmid, List.length_take, List.length_drop, hcl]; simp only [Nat.min_def]; split <;> omega
 rw [<- hmid] at h1c ⊢
 have hcp2 : ∀ ty dc sc, (Builtin.copy_ #[75, 75] ty #[.slice (some ⟨w.heap.size, (i + 1) * 2, none⟩) (n - i) dc, .slice (some ⟨b, i * 2, none⟩) (n - i) sc]).run Tryz.prog W2.drew = .ok (goInt (Nat.min (n - i) (n - i))) (W2.drew.setRow w.heap.size (row1.toArray.toList.take ((i + 1) * 2) ++ mid ++ row1.toArray.toList.drop ((i + 1) * 2 + mid.length)).toArray) := fun ty dc sc =>
  v8 W2.drew _ _ ty 160 w.heap.size ((i + 1) * 2) (n - i) dc ⟨b, i * 2, none⟩ (n - i) sc row1.toArray _ mid ht hsize hW2n (by rw [hml]; simp only [Nat.min_def]; split <;> omega) (fun j v hj => by
   rw [yE (w := W2.drew) ((hW2o b hbw).trans hb), <- Array.getElem?_toList]
   rw [hmid, List.getElem?_take] at hj
   split at hj
   ·rwa [List.getElem?_drop] at hj
   ·cases hj) (by rw [hml, List.size_toArray, h1l]; omega) h1c
 rw [hml] at hcp2
 simp only [List.toList_toArray] at hcp2
 refine (?_ : Calls Tryz.prog 193 _ w fun e w' => e = .returned (.slice (some ⟨w.heap.size, 0, none⟩) (n + 1) G) /\ w' = W2.drew.setRow w.heap.size (row1.take ((i + 1) * 2) ++ mid ++ row1.drop ((i + 1) * 2 + (n - i) * 2)).toArray).mono fun e w' h => ⟨hG ▸ h.1, zs, row0, row1, hG ▸ hzl, hrow0, hrow1, by rw [h.2, hW2, hW1]⟩
 have hw1 : IntKind.i64.wrap ((i : Int) + 1) = (i : Int) + 1 := by rw [IntKind.wrap_i64]; omega
 have htn : ((i : Int) + 1).toNat = i + 1 := by omega
 have hb3 : (i : Int) + 1 <= (n : Int) + 1 := by omega
 have hb5 : (i : Int) <= (n : Int) + 1 := by omega
 have hb1 : (0 : Int) <= (i : Int) + 1 := by omega
 have hb2 : ¬ (G = i + 1) := by omega
 have hb4 : ¬ (G = i) := by omega
 have hb6 : ¬ (c = i) := by omega
 have hb7 : (i : Int) <= (n : Int) := by omega
 have hb8 : i <= n := by omega
 have hw3 : IntKind.i64.wrap ((n : Int) + 1 - (i : Int)) = (n : Int) + 1 - (i : Int) := by rw [IntKind.wrap_i64]; omega
 have H0 := Lib.hid hrow0; clear hrow0
 have H1 := Lib.hid hrow1; clear hrow1
 have HM := Lib.hid hmid; clear hmid
 have HG := Lib.hid hG; clear hG
 have HA := Lib.hid hW1; clear hW1
 have HB := Lib.hid hW2; clear hW2
 have mixed := mixed
 go_enter Tryz.func193, Tryz.ntmps193
 go_wp2_with (at_builtin; first | (refine Lib.wpList_append_run _ rfl _ _ _ _ rfl _ _ rfl rfl _ _ (hrz _) ?_) | (refine Xd _ rfl _ _ 75 75 rfl _ _ rfl rfl (hcp1 _ _) ?_))
 go_region_law (refine X9 rfl _ _ 75 75 rfl _ _ (by simp [Act.eval, Act.put]) (by simp [Act.eval, Act.put]) (hcp2 _ _ _) ?_)
 go_wp2_with fail
 go_ret
 exact ⟨rfl, by simp⟩
end
theorem Rep.sl_none {S : Nat -> Prop} {up : Nat -> Option Pos} {w : World} {p : Option Pos} {k : Nat} {rows : List (List D)} {v : Value} (h : Rep S up w p (.sl k rows) v) : Rep S up w none (.sl k rows) v := by
 cases h with
 | sl0 h => exact .sl0 h
 | sl us h1 h2 h3 h4 h5 => exact .sl us h1 h2 h3 h4 h5
def InsOut (w w' : World) (b n : Nat) (T : List Value) (e : Ending) : Prop :=
 ∃ (b' c' : Nat) (cs' : Array Value), e = .returned (.slice (some ⟨b', 0, none⟩) (n + 1) c') /\ w'.heap[b']? = some (.cells cs' 160 (0, 0)) /\ cs'.size = c' * 2 /\ n + 1 <= c' /\ c' <= maxLen /\
  (∀ j v, T[j]? = some v -> cs'.getD j undef = v) /\ (b' = b \/ b' = w.heap.size) /\ (∀ b0, b0 < w.heap.size -> b0 ≠ b -> w'.heap[b0]? = w.heap[b0]?) /\ Below 0 w w'
theorem uF (w : World) (g : Nat) (cs : Array Value) : Below 0 w (w.setRow g cs) := ⟨rfl, rfl, rfl, by simp, fun c hc => by omega⟩
theorem Yx (l : List Value) (j : Nat) (v : Value) (h : l[j]? = some v) : l.toArray.getD j undef = v := by
 rw [Array.getD_eq_getD_getElem?, List.getElem?_toArray, h]; rfl
theorem Za {α : Type} {l l' T : List α} {j : Nat} {v : α} (h : ∃ r, l = T ++ r) (hj : T[j]? = some v) : l[j]? = some v := by
 obtain ⟨r, rfl⟩ := h
 rw [List.getElem?_append_left (List.getElem?_eq_some_iff.1 hj).1]; exact hj
theorem ins_all (w : World) (b vb n c vc i : Nat) (cs vs : Array Value) (base : Option Addr) (hi : i <= n) (hbase : (base = none /\ n = 0 /\ c = 0 /\ cs = #[] /\ b = w.heap.size) \/ (base = some ⟨b, 0, none⟩ /\ w.heap[b]? = some (.cells cs 160 (0, 0)) /\ cs.size = c * 2 /\ n <= c)) (hcm : c <= maxLen) (hv : w.heap[vb]? = some (.cells vs 160 (0, 0))) (hvb : vb ≠ b)
  (news : List Value) (hnl : news.length = 2) (hnv : ∀ (j : Nat) v, news[j]? = some v -> vs[j]? = some v) (h1 : ∀ v ∈ news, v.oneCell' = true) (h1c : ∀ v ∈ cs.toList.take (n * 2), v.oneCell' = true) (hn9 : n <= 3000000) :
  Calls Tryz.prog 193 #[.slice base n c, .int .i64 i, .slice (some ⟨vb, 0, none⟩) 1 vc] w fun e w' => InsOut w w' b n (cs.toList.take (i * 2) ++ news ++ (cs.toList.drop (i * 2)).take ((n - i) * 2)) e := by
 have h1c' : ∀ v ∈ (cs.toList.drop (i * 2)).take ((n - i) * 2), v.oneCell' = true := fun v hv => h1c v (by
  rw [Nat.sub_mul, <- List.drop_take] at hv
  exact List.mem_of_mem_drop hv)
 have h9 : ∀ k, k <= 3000001 -> k <= maxLen := fun k hk => by simp only [maxLen]; omega
 rcases Nat.lt_or_ge c (n + 1) with hg | hr
 ·rcases Nat.lt_or_ge i n with hin | hin
  ·obtain ⟨rfl, k2, k3, k4⟩ : base = some ⟨b, 0, none⟩ /\ w.heap[b]? = some (.cells cs 160 (0, 0)) /\ cs.size = c * 2 /\ n <= c := by
    rcases hbase with ⟨-, q, -⟩ | q
    ·omega
    ·exact q
   have hcl : cs.toList.length = c * 2 := by rw [Array.length_toList, k3]
   refine (ins_ig w b vb n c vc cs vs i hin k2 k3 hv news hnl hnv h1 h1c' k4 hg (by omega)).mono ?_
   rintro e w' ⟨rfl, zs, row0, row1, hz, h0, h1r, rfl⟩
   have hge := grownCap_ge w (n + 1) c 160
   obtain ⟨G, hG⟩ : ∃ G, G = grownCap w (n + 1) c 160 := ⟨_, rfl⟩
   rw [<- hG] at hz hge ⊢
   have h0l : row0.length = G * 2 := by rw [h0, List.length_append, List.length_take, hcl, hz]; simp only [Nat.min_def]; split <;> omega
   have h1l : row1.length = G * 2 := by rw [h1r, List.length_append, List.length_append, List.length_take, List.length_drop, h0l, hnl]; simp only [Nat.min_def]; split <;> omega
   have hml : ((cs.toList.drop (i * 2)).take ((n - i) * 2)).length = (n - i) * 2 := by rw [List.length_take, List.length_drop, hcl]; simp only [Nat.min_def]; split <;> omega
   refine ⟨_, _, _, rfl, setRow_heap _ _ row1.toArray _ _ _ (setRow_heap _ _ row0.toArray _ _ _ (heap_alloc_new w.drew _)), ?_, hge, by rw [hG]; exact grownCap_le_maxLen w _ c _ (h9 _ (by omega)), fun j v hj => Yx _ _ _ (Za (l' := []) ⟨row1.drop ((i + 1) * 2 + (n - i) * 2), ?_⟩ hj), .inr rfl, fun b0 q _ => ?_, ?_⟩
   ·simp only [List.size_toArray, List.length_append, hml, List.length_take, List.length_drop, h1l, Nat.min_def]; split <;> omega
   ·congr 1
    rw [List.append_cancel_right_eq]
    rw [h1r, h0]
    have e1 : (cs.toList.take (i * 2) ++ zs).take (i * 2) = cs.toList.take (i * 2) := by
     rw [List.take_append_of_le_length (by rw [List.length_take, hcl]; simp only [Nat.min_def]; split <;> omega), List.take_take, Nat.min_self]
    rw [e1, List.take_append_of_le_length (by rw [List.length_append, List.length_take, hcl, hnl]; simp only [Nat.min_def]; split <;> omega), List.take_of_length_le (by rw [List.length_append, List.length_take, hcl, hnl]; simp only [Nat.min_def]; split <;> omega)]
   ·rw [setRow_other _ _ _ _ (by omega)]
    show ((w.drew.alloc _).setRow _ _).heap[b0]? = _
    rw [setRow_other _ _ _ _ (by omega)]
    exact Below.heap_alloc w.drew _ _ q
   ·exact ((((Below.refl _ _).drew.trans ((Below.refl _ _).alloc (Nat.zero_le _) _)).trans (uF _ _ _)).drew).trans (uF _ _ _)
  ·obtain rfl : i = n := by omega
   refine (ins_eg w b vb i c vc cs vs base (by
    rcases hbase with ⟨q1, q2, q3, -, -⟩ | ⟨q1, q2, q3, q4⟩
    ·exact .inl ⟨q1, q2, q3⟩
    ·exact .inr ⟨q1, q2, q3, q4⟩) hv news hnl hnv h1 hg (by omega)).mono ?_
   rintro e w' ⟨zs, hz, rfl, rfl⟩
   have hge := grownCap_ge w (i + 1) c 160
   have hcl : (cs.toList.take (i * 2)).length = i * 2 := by
    rcases hbase with ⟨-, rfl, -, rfl, -⟩ | ⟨-, -, q3, q4⟩
    ·rfl
    ·rw [List.length_take, Array.length_toList, q3]; simp only [Nat.min_def]; split <;> omega
   refine ⟨_, _, _, rfl, heap_alloc_new w.drew _, ?_, hge, grownCap_le_maxLen w _ c _ (h9 _ (by omega)), fun j v hj => ?_, .inr rfl, fun b0 q _ => Below.heap_alloc w.drew _ _ q, (Below.refl _ _).drew.trans ((Below.refl _ _).alloc (Nat.zero_le _) _)⟩
   ·rw [Array.size_append, Array.size_append, List.size_toArray, List.size_toArray, hcl, hnl, hz]; omega
   ·simp only [Nat.sub_self, Nat.zero_mul, List.take_zero, List.append_nil] at hj
    rw [Array.getD_eq_getD_getElem?, <- Array.getElem?_toList, Array.toList_append, Array.toList_append, Za (l' := []) ⟨zs.toList, rfl⟩ hj]; rfl
 ·obtain ⟨rfl, k2, k3, k4⟩ : base = some ⟨b, 0, none⟩ /\ w.heap[b]? = some (.cells cs 160 (0, 0)) /\ cs.size = c * 2 /\ n <= c := by
   rcases hbase with ⟨-, q, q', -⟩ | q
   ·omega
   ·exact q
  have hcl : cs.toList.length = c * 2 := by rw [Array.length_toList, k3]
  rcases Nat.lt_or_ge i n with hin | hin
  ·refine (ins_ir w b vb n c vc cs vs i hin k2 k3 hv hvb news hnl hnv h1 h1c' hr (by omega)).mono ?_
   rintro e w' ⟨rfl, cs1, h1r, rfl⟩
   have hml : ((cs.toList.drop (i * 2)).take ((n - i) * 2)).length = (n - i) * 2 := by rw [List.length_take, List.length_drop, hcl]; simp only [Nat.min_def]; split <;> omega
   have h1l : cs1.length = c * 2 := by rw [h1r, List.length_append, List.length_append, List.length_take, List.length_drop, hcl, hml]; simp only [Nat.min_def]; split <;> omega
   refine ⟨_, _, _, rfl, setRow_heap _ _ cs1.toArray _ _ _ (setRow_heap _ _ cs _ _ _ k2), ?_, hr, hcm, fun j v hj => Yx _ _ _ (Za (l' := []) ⟨cs.toList.drop ((i + 1) * 2 + (n - i) * 2), ?_⟩ hj), .inl rfl, fun b0 q q' => ?_, ?_⟩
   ·simp only [List.size_toArray, List.length_append, hnl, List.length_take, List.length_drop, h1l, Nat.min_def]; split <;> omega
   ·rw [h1r]
    have e1 : (cs.toList.take ((i + 1) * 2) ++ (cs.toList.drop (i * 2)).take ((n - i) * 2) ++ cs.toList.drop ((i + 1) * 2 + (n - i) * 2)).take (i * 2) = cs.toList.take (i * 2) := by
     rw [List.append_assoc, List.take_append_of_le_length (by rw [List.length_take, hcl]; simp only [Nat.min_def]; split <;> omega), List.take_take]
     congr 1; simp only [Nat.min_def]; split <;> omega
    have e2 : (cs.toList.take ((i + 1) * 2) ++ (cs.toList.drop (i * 2)).take ((n - i) * 2) ++ cs.toList.drop ((i + 1) * 2 + (n - i) * 2)).drop (i * 2 + 2) = (cs.toList.drop (i * 2)).take ((n - i) * 2) ++ cs.toList.drop ((i + 1) * 2 + (n - i) * 2) := by
     rw [List.append_assoc, List.drop_append_of_le_length (by rw [List.length_take, hcl]; simp only [Nat.min_def]; split <;> omega), List.drop_of_length_le (by rw [List.length_take, hcl]; simp only [Nat.min_def]; split <;> omega), List.nil_append]
    rw [e1, e2]; simp
   ·rw [setRow_other _ _ _ _ q', setRow_other _ _ _ _ q']; rfl
   ·exact ((Below.refl _ _).drew.trans (uF _ _ _)).trans (uF _ _ _)
  ·obtain rfl : i = n := by omega
   refine (ins_er w b vb i c vc cs vs k2 k3 hv news hnl hnv h1 hr hcm).mono ?_
   rintro e w' ⟨rfl, rfl⟩
   refine ⟨_, _, _, rfl, setRow_heap _ _ cs _ _ _ k2, ?_, hr, hcm, fun j v hj => ?_, .inl rfl, fun b0 q q' => setRow_other _ _ _ _ q', uF _ _ _⟩
   ·simp only [List.size_toArray, List.length_append, hnl, List.length_take, List.length_drop, hcl, Nat.min_def]; split <;> omega
   ·simp only [Nat.sub_self, Nat.zero_mul, List.take_zero, List.append_nil] at hj
    exact Yx _ _ _ (Za (l' := []) ⟨_, rfl⟩ hj)
def insL (l : List SubM) (i : Nat) (x : SubM) : List SubM := l.take i ++ x :: l.drop i
theorem SubM.enc_len (x : SubM) : x.enc.length = 2 := rfl
theorem XG (l : List SubM) (cs : Array Value) (S : Nat -> Prop) (up : Nat -> Option Pos) (w : World) (b : Nat) (hcs : ∀ (i j : Nat) (row : List D) (d : D), (l.map SubM.enc)[i]? = some row -> row[j]? = some d -> Rep S up w (some (.cell b (i * 2 + j))) d (cs.getD (i * 2 + j) undef)) (q : Nat) (hq : q < l.length) (j : Nat) (hj : j < 2) :
  ∃ d, (l[q].enc)[j]? = some d /\ Rep S up w (some (.cell b (q * 2 + j))) d (cs.getD (q * 2 + j) undef) := by
 have hj' : j < l[q].enc.length := by rw [SubM.enc_len]; exact hj
 exact ⟨l[q].enc[j], List.getElem?_eq_getElem hj', hcs q j _ _ (by rw [List.getElem?_map, List.getElem?_eq_getElem hq]; rfl) (List.getElem?_eq_getElem hj')⟩
theorem ZI {S S' : Nat -> Prop} {up up' : Nat -> Option Pos} {w w' : World} (hS : ∀ b, S b -> S' b /\ w'.heap[b]? = w.heap[b]?) {x : SubM} {j : Nat} {d : D} {p : Option Pos} {v : Value} (hd : x.enc[j]? = some d) (h : Rep S up w p d v) (p' : Option Pos) : Rep S' up' w' p' d v := by
 have mv : Mv (fun _ => False) (fun p => p) ⟨fun _ => none, fun _ => 0, up, S⟩ ⟨fun _ => none, fun _ => 0, up', S'⟩ w w' := ⟨hS, fun b p _ q => q.elim, fun b p o _ q => q.elim⟩
 rw [SubM.enc_eq] at hd
 match j, hd with
 | 0, hd =>
  have hd : D.s (.int .i64 x.v) = d := by simpa using hd
  subst hd
  have := Rep.s_inv h
  subst this
  exact .s rfl
 | 1, hd =>
  have hd : D.sl 3 (x.ty.map TyI.enc) = d := by simpa using hd
  subst hd
  have := Rep.move mv (h.sl_none) (fun q hq => by cases hq)
  exact Rep.any this p'
 | j + 2, hd => simp at hd
theorem XA (l : List SubM) (x : SubM) (i : Nat) (hi : i <= l.length) (hl : l.length <= 3000000) :
  FCon Tryz.prog 193 [.osl 160 2 (l.map SubM.enc), .s (.int .i64 i), .osl 160 2 [x.enc]] (fun r o => r = .osl 160 2 ((insL l i x).map SubM.enc) /\ o = [.un, .un, .un]) := by
 refine ⟨fun vs w => ?_, fun w g vs hS hu hlen hv => ?_⟩
 ·have h1 := Tryz.func193
  have hname' : ¬ Tryz.f193.name = "runtime.NumGoroutine" := by decide
  have hbn : ¬ Tryz.f193.body = none := by decide
  simp [callFunc, h1, hname', hbn]
 ·obtain ⟨v0, v1, v2, rfl⟩ : ∃ v0 v1 v2, vs = [v0, v1, v2] := by
   match vs, hlen with
   | [a, b, c], _ => exact ⟨a, b, c, rfl⟩
  have h0 : Rep g.S g.up w (some (.par 0 0)) (.osl 160 2 (l.map SubM.enc)) v0 := hv 0 _ v0 rfl rfl
  have h1 : Rep g.S g.up w (some (.par 1 0)) (.s (.int .i64 i)) v1 := hv 1 _ v1 rfl rfl
  have h2 : Rep g.S g.up w (some (.par 2 0)) (.osl 160 2 [x.enc]) v2 := hv 2 _ v2 rfl rfl
  have h1 := Rep.s_inv h1
  subst h1
  generalize hrx : [x.enc] = rx at h2
  cases h2 with
  | osl0 => cases hrx
  | @osl _ _ _ _ vb vc vs j1 j2 j3 j4 j5 j6 j7 =>
  subst hrx
  have hSh : ∀ b, g.S b -> b < w.heap.size /\ g.up b = none := fun b q => ⟨hS b q, by
   cases hq : g.up b with
   | none => rfl
   | some p => exact absurd q (hu b p hq).2⟩
  have hnew : ∀ (j : Nat), j < 2 -> ∃ d, x.enc[j]? = some d /\ Rep g.S g.up w (some (.cell vb j)) d (vs.getD j undef) := fun j hj => by
   have := XG [x] vs g.S g.up w vb j7 0 (by simp) j hj
   simpa using this
  have hvs : ∀ j, j < 2 -> vs[j]? = some (vs.getD j undef) := fun j hj => by
   have hj' : j < vs.size := by rw [j5]; simp at j3; omega
   rw [Array.getD_eq_getD_getElem?, Array.getElem?_eq_getElem hj']; rfl
  obtain ⟨base, n, c, cs, b, rfl, hn, hbase, hcm, hvb, hcell, hub⟩ : ∃ (base : Option Addr) (n c : Nat) (cs : Array Value) (b : Nat), v0 = .slice base n c /\ n = l.length /\ ((base = none /\ n = 0 /\ c = 0 /\ cs = #[] /\ b = w.heap.size) \/ (base = some ⟨b, 0, none⟩ /\ w.heap[b]? = some (.cells cs 160 (0, 0)) /\ cs.size = c * 2 /\ n <= c)) /\ c <= maxLen /\ vb ≠ b /\
    (∀ (i j : Nat) (row : List D) (d : D), (l.map SubM.enc)[i]? = some row -> row[j]? = some d -> Rep g.S g.up w (some (.cell b (i * 2 + j))) d (cs.getD (i * 2 + j) undef)) /\ (b < w.heap.size -> g.up b = some (.par 0 0)) := by
   generalize hrl : l.map SubM.enc = rl at h0
   cases h0 with
   | osl0 =>
    have : l = [] := by simpa using hrl
    subst this
    exact ⟨none, 0, 0, #[], w.heap.size, rfl, rfl, .inl ⟨rfl, rfl, rfl, rfl, rfl⟩, Nat.zero_le _, fun e => (by have := (hu vb _ j1).1; omega), fun i j row d q => (by simp at q), fun q => absurd q (Nat.lt_irrefl _)⟩
   | @osl _ _ _ _ b c cs k1 k2 k3 k4 k5 k6 k7 =>
    have hlen : rl.length = l.length := by rw [<- hrl, List.length_map]
    refine ⟨some ⟨b, 0, none⟩, rl.length, c, cs, b, rfl, hlen, .inr ⟨rfl, k2, k5, k3⟩, k4, fun e => ?_, k7, fun _ => k1⟩
    subst e
    rw [j1] at k1; injection k1 with k1; injection k1 with k1; cases k1
  have hcsl : ∀ q j, q < l.length -> j < 2 -> cs.toList[q * 2 + j]? = some (cs.getD (q * 2 + j) undef) := fun q j hq hj => by
   rcases hbase with ⟨-, q0, -⟩ | ⟨-, -, q3, q4⟩
   ·omega
   ·have hlt : q * 2 + j < cs.size := by omega
    rw [Array.getElem?_toList, Array.getD_eq_getD_getElem?, Array.getElem?_eq_getElem hlt]; rfl
  have hone : ∀ v ∈ cs.toList.take (n * 2), v.oneCell' = true := fun v hv' => by
   obtain ⟨m, hm, rfl⟩ := List.getElem_of_mem hv'
   have hm2 : m < n * 2 := by rw [List.length_take] at hm; simp only [Nat.min_def] at hm; split at hm <;> omega
   obtain ⟨d, q1, q2⟩ := XG l cs g.S g.up w b hcell (m / 2) (by omega) (m % 2) (by omega)
   have e : m / 2 * 2 + m % 2 = m := by omega
   have q3 := hcsl (m / 2) (m % 2) (by omega) (by omega)
   rw [e] at q2 q3
   have q4 := q2.one
   rw [List.getElem_take]
   have hm3 : m < cs.toList.length := by rw [List.length_take] at hm; simp only [Nat.min_def] at hm; split at hm <;> omega
   rw [List.getElem?_eq_getElem hm3] at q3
   injection q3 with q3
   rw [q3]; exact q4
  obtain ⟨news, hnews⟩ : ∃ news, news = [vs.getD 0 undef, vs.getD 1 undef] := ⟨_, rfl⟩
  have hmain := ins_all w b vb n c vc i cs vs base (by omega) hbase hcm j2 hvb news (by rw [hnews]; rfl) (fun j v hj => by
   rw [hnews] at hj
   match j, hj with
   | 0, hj =>
         have hj : vs.getD 0 undef = v := by simpa using hj
         rw [hvs 0 (by omega), hj]
   | 1, hj =>
         have hj : vs.getD 1 undef = v := by simpa using hj
         rw [hvs 1 (by omega), hj]
   | j + 2, hj => simp at hj) (fun v hv' => by
   rw [hnews] at hv'
   obtain ⟨d0, -, q0⟩ := hnew 0 (by omega)
   obtain ⟨d1, -, q1⟩ := hnew 1 (by omega)
   simp only [List.mem_cons, List.not_mem_nil, or_false] at hv'
   rcases hv' with rfl | rfl
   ·exact q0.one
   ·exact q1.one) hone (by omega)
  refine hmain.mono ?_
  rintro e w' ⟨b', c', cs', rfl, m1, m2, m3, m4, m5, m6, m7, m8⟩
  have hother : ∀ b0, b0 < w.heap.size -> g.up b0 = none -> w'.heap[b0]? = w.heap[b0]? := fun b0 q1 q2 => m7 b0 q1 (fun e => by subst e; rw [hub q1] at q2; cases q2)
  let up' : Nat -> Option Pos := fun b0 => if b0 = b' then some (.ans 0 0) else if b0 = b \/ b0 = vb then none else g.up b0
  have hSm : ∀ b0, g.S b0 -> g.S b0 /\ w'.heap[b0]? = w.heap[b0]? := fun b0 q => ⟨q, hother b0 (hSh b0 q).1 (hSh b0 q).2⟩
  have hbs : b' < w'.heap.size := (Array.getElem?_eq_some_iff.1 m1).1
  refine ⟨_, ⟨g.β, g.κ, up', g.S⟩, .osl 160 2 ((insL l i x).map SubM.enc), [.un, .un, .un], rfl, m8, hother, fun _ q => q, fun _ _ q => .inl q, fun b0 q => Nat.lt_of_lt_of_le (hS b0 q) m8.size, fun b0 p hp => ?_, ⟨rfl, rfl⟩, ?_, fun j d u q1 q2 => ?_⟩
  ·have hp : up' b0 = some p := hp
   simp only [up'] at hp
   by_cases hb0 : b0 = b'
   ·subst hb0
    refine ⟨hbs, fun q => ?_, fun q => ?_⟩
    ·rcases m6 with rfl | rfl
     ·rw [hub q]; simp
     ·omega
    ·rcases m6 with rfl | rfl
     ·have := hSh _ q; rw [hub this.1] at this; cases this.2
     ·have := (hSh _ q).1; omega
   ·rw [if_neg hb0] at hp
    split at hp
    ·cases hp
    ·have := hu b0 p hp
     exact ⟨Nat.lt_of_lt_of_le this.1 m8.size, fun _ => (by rw [hp]; simp), this.2⟩
  ·show Rep g.S up' w' (some (.ans 0 0)) _ _
   have hlen : ((insL l i x).map SubM.enc).length = n + 1 := by
    rw [List.length_map]; simp only [insL, List.length_append, List.length_cons, List.length_take, List.length_drop, Nat.min_def]; split <;> omega
   rw [<- hlen]
   refine Rep.osl cs' (by simp [up']) m1 (by rw [hlen]; exact m3) m4 m2 (fun q row hq => ?_) (fun q j row d hq hj => ?_)
   ·rw [List.getElem?_map] at hq
    obtain ⟨y, -, rfl⟩ := Option.map_eq_some_iff.1 hq
    rfl
   ·rw [List.getElem?_map] at hq
    obtain ⟨y, hy, rfl⟩ := Option.map_eq_some_iff.1 hq
    have hj2 : j < 2 := by have := (List.getElem?_eq_some_iff.1 hj).1; rwa [SubM.enc_len] at this
    have hcl : n * 2 <= cs.toList.length := by
     rcases hbase with ⟨-, q0, -⟩ | ⟨-, -, q3, q4⟩
     ·omega
     ·rw [Array.length_toList, q3]; omega
    have htl : (cs.toList.take (i * 2)).length = i * 2 := by rw [List.length_take]; simp only [Nat.min_def]; split <;> omega
    have hnl : news.length = 2 := by rw [hnews]; rfl
    rcases Nat.lt_trichotomy q i with hqi | hqi | hqi
    ·have hy' : l[q]? = some y := by
      rw [insL, List.getElem?_append_left (by rw [List.length_take]; simp only [Nat.min_def]; split <;> omega), List.getElem?_take_of_lt hqi] at hy
      exact hy
     obtain ⟨hq1, hq2⟩ := List.getElem?_eq_some_iff.1 hy'
     obtain ⟨d', r1, r2⟩ := XG l cs g.S g.up w b hcell q hq1 j hj2
     rw [hq2, hj] at r1; injection r1 with r1; subst r1
     have hv := m5 (q * 2 + j) _ (by
      rw [List.append_assoc, List.getElem?_append_left (by rw [htl]; omega), List.getElem?_take_of_lt (by omega)]
      exact hcsl q j hq1 hj2)
     rw [hv]
     exact ZI hSm hj r2 _
    ·subst hqi
     have hy' : x = y := by
      rw [insL, List.getElem?_append_right (by rw [List.length_take]; simp only [Nat.min_def]; split <;> omega), List.length_take, Nat.min_eq_left (by omega), Nat.sub_self] at hy
      simpa using hy
     subst hy'
     obtain ⟨d', r1, r2⟩ := hnew j hj2
     rw [hj] at r1; injection r1 with r1; subst r1
     have hv := m5 (q * 2 + j) (vs.getD j undef) (by
      rw [List.append_assoc, List.getElem?_append_right (by rw [htl]; omega), htl, List.getElem?_append_left (by rw [hnl]; omega), Nat.add_sub_cancel_left, hnews]
      match j, hj2 with
      | 0, _ => rfl
      | 1, _ => rfl)
     rw [hv]
     exact ZI hSm hj r2 _
    ·have hy' : l[q - 1]? = some y := by
      rw [insL, List.getElem?_append_right (by rw [List.length_take]; simp only [Nat.min_def]; split <;> omega), List.length_take, Nat.min_eq_left (by omega), show q - i = (q - 1 - i) + 1 by omega, List.getElem?_cons_succ, List.getElem?_drop] at hy
      rwa [show i + (q - 1 - i) = q - 1 by omega] at hy
     obtain ⟨hq1, hq2⟩ := List.getElem?_eq_some_iff.1 hy'
     obtain ⟨d', r1, r2⟩ := XG l cs g.S g.up w b hcell (q - 1) hq1 j hj2
     rw [hq2, hj] at r1; injection r1 with r1; subst r1
     have hv := m5 (q * 2 + j) _ (by
      rw [List.append_assoc, List.getElem?_append_right (by rw [htl]; omega), htl, List.getElem?_append_right (by rw [hnl]; omega), hnl, List.getElem?_take_of_lt (by omega), List.getElem?_drop, show i * 2 + (q * 2 + j - i * 2 - 2) = (q - 1) * 2 + j by omega]
      exact hcsl (q - 1) j hq1 hj2)
     rw [hv]
     exact ZI hSm hj r2 _
  ·match j, q1 with
   | 0, q1 =>
         have q1 : D.un = d := by simpa using q1
         subst q1; trivial
   | 1, q1 =>
         have q1 : D.un = d := by simpa using q1
         subst q1; trivial
   | 2, q1 =>
         have q1 : D.un = d := by simpa using q1
         subst q1; trivial
   | j + 3, q1 => simp at q1
end
section
theorem vm (xs : List TyI) (k e : Nat) (h : endM xs k = e) : k < e /\ e <= xs.length /\ k < xs.length := by
 by_cases hk : k < xs.length
 ·rw [vV xs k hk] at h
  rcases ZL xs (k + 1) xs[k].ar.toNat hk with h' | ⟨n, h', h1, h2⟩ <;> omega
 ·rw [ZJ xs k (by omega)] at h; omega
def seg (xs : List TyI) (k e : Nat) : List TyI := (xs.drop k).take (e - k)
theorem seg_cons {xs : List TyI} {k e : Nat} (hk : k < xs.length) (he : k < e) : seg xs k e = xs[k] :: seg xs (k + 1) e := by
 unfold seg
 rw [List.drop_eq_getElem_cons hk, show e - k = (e - (k + 1)) + 1 by omega, List.take_succ_cons]
theorem seg_app {xs : List TyI} {k e1 e : Nat} (h1 : k <= e1) (h2 : e1 <= e) (h3 : e <= xs.length) : seg xs k e = seg xs k e1 ++ seg xs e1 e := by
 unfold seg
 rw [show e - k = (e1 - k) + (e - e1) by omega, List.take_add, List.drop_drop, show k + (e1 - k) = e1 by omega]
theorem seg_nil (xs : List TyI) (k : Nat) : seg xs k k = [] := by simp [seg]
theorem item_eq {x y : TyI} (h1 : x.v = y.v) (h2 : x.name.data.toList = y.name.data.toList) (h3 : x.ar = y.ar) : x = y := by
 obtain ⟨v, ⟨⟨l⟩⟩, a⟩ := x
 obtain ⟨u, ⟨⟨m⟩⟩, b⟩ := y
 simp only at h1 h2 h3
 subst h1 h2 h3
 rfl
end
section
open Go.RowKit
theorem xas (xs : List TyI) (k m : Nat) (h : k < xs.length) : xT xs k (m + 1) = xT xs (k + 1) (m + xs[k].ar.toNat) := by
 unfold xT
 rw [Yi xs k h, scan]
 cases scan ((arsM xs).drop (k + 1)) (m + xs[k].ar.toNat) with
 | none => rfl
 | some j => simp; omega
theorem endsM_out (xs : List TyI) (k m : Nat) (h : xs.length <= k) : xT xs k (m + 1) = -1 := by
 unfold xT
 have : (arsM xs).drop k = [] := List.drop_eq_nil_of_le (by simpa [arsM] using h)
 rw [this]; rfl
def itemB (x y : TyI) : Bool := (x.v == y.v) && ((x.name.toList == y.name.toList) && ((x.ar == y.ar) && true))
theorem itemB_iff (x y : TyI) : itemB x y = true ↔ x = y := by
  constructor
  · intro h
    unfold itemB at h
    simp only [Bool.and_eq_true, beq_iff_eq] at h
    obtain ⟨h1, h2, h3, -⟩ := h
    obtain ⟨v, ⟨⟨l⟩⟩, a⟩ := x
    obtain ⟨u, ⟨⟨m⟩⟩, b⟩ := y
    rw [ByteArray.toList_eq, ByteArray.toList_eq] at h2
    simp only at h1 h2 h3
    subst h1 h2 h3
    rfl
  · rintro rfl
    simp [itemB]
instance : DecidableEq TyI := fun x y => decidable_of_iff (itemB x y = true) (itemB_iff x y)
theorem seg_enc (ys : List TyI) (k f : Nat) : ((ys.map TyI.enc).take f).drop k = (seg ys k f).map TyI.enc := by unfold seg; rw [List.drop_take, List.map_take, List.map_drop]
theorem Ug {ys : List TyI} {k f : Nat} (h : f <= ys.length) : (seg ys k f).length = f - k := by unfold seg; simp; omega
theorem SubM.frzE_eq (x : SubM) : frzL x.enc = x.enc := by simp only [SubM.enc_eq, frzL, frz]
theorem SubM.frzE (xs : List SubM) : xN (xs.map SubM.enc) = xs.map SubM.enc := xR SubM.frzE_eq xs
attribute [go_sem] SubM.frzE
theorem c_putI (xs : List TyI) (l : List SubM) (hl : xs.length <= 1000000000) (hb0 : (putX l xs).length <= 2199023255552) : FCon Tryz.prog 102 [.sl 3 (xs.map TyI.enc), .sl 2 (l.map SubM.enc)] (fun r _ => r = .sl 3 ((putX l xs).map TyI.enc)) := FCon.ice ((uV xs l hl hb0).mono fun r o e => by
 subst e; simp only [frA, frz, TyI.frzS])
def xw (l : List SubM) (v : Int) (u : List TyI) : List SubM := l.map fun s => ⟨s.v, putX [⟨v, u⟩] s.ty⟩
def cntU (l : List SubM) (v : Int) : Nat := (l.takeWhile fun s => decide (s.v < v)).length
def xp (l : List SubM) (v : Int) (u : List TyI) : List SubM := insL (xw l v u) (cntU l v) ⟨v, u⟩
def bigU (l : List SubM) : Bool := l.any fun s => decide (200 < s.ty.length)
def xv (l : List SubM) (v : Int) (u : List TyI) : List SubM × Int := if v ∈ xm u then (l, 3) else (xp l v u, if (decide (200 < u.length) || bigU (xw l v u)) = true then 4 else 0)
theorem yF (l : List SubM) (v : Int) (u : List TyI) : (xw l v u).length = l.length := by simp [xw]
theorem xax {l : List SubM} {k : Nat} (v : Int) (u : List TyI) (h : k < l.length) : xw (l.take (k + 1)) v u = xw (l.take k) v u ++ [⟨l[k].v, putX [⟨v, u⟩] l[k].ty⟩] := by
 unfold xw; rw [List.take_succ_eq_append_getElem h, List.map_append]; rfl
theorem VH (l : List SubM) (x : SubM) : bigU (l ++ [x]) = (bigU l || decide (200 < x.ty.length)) := by simp [bigU]
theorem W5 (l : List SubM) (v : Int) (u : List TyI) (k : Nat) (h : k < (xw l v u).length) : (xw l v u)[k].v = (l[k]'(by rwa [yF] at h)).v := by simp [xw]
theorem YW (l : List SubM) (v : Int) : cntU l v <= l.length := (List.takeWhile_prefix _).length_le
theorem WR {l : List SubM} {v : Int} {k : Nat} (h : k < cntU l v) (hk : k < l.length) : l[k].v < v := by
 have h1 : l[k] ∈ l.takeWhile fun s => decide (s.v < v) := by
  have := (List.takeWhile_prefix (p := fun s : SubM => decide (s.v < v)) (l := l)).getElem h
  rw [<- this]; exact List.getElem_mem h
 have h2 : ∀ (m : List SubM) (x : SubM), x ∈ m.takeWhile (fun s => decide (s.v < v)) -> x.v < v := by
  intro m x
  induction m with
  | nil => simp
  | cons a m ih =>
   rw [List.takeWhile_cons]
   split
   ·rename_i q
    intro hx
    rcases List.mem_cons.1 hx with rfl | hx
    ·simpa using q
    ·exact ih hx
   ·simp
 exact h2 _ _ h1
theorem WQ {l : List SubM} {v : Int} (hk : cntU l v < l.length) : ¬ l[cntU l v].v < v := by
 intro h
 have := List.takeWhile_append_dropWhile (p := fun s : SubM => decide (s.v < v)) (l := l)
 have h2 : l.dropWhile (fun s => decide (s.v < v)) = l.drop (cntU l v) := by
  have e := congrArg (List.drop (cntU l v)) this
  rw [cntU, List.drop_left] at e
  exact e
 have h3 := List.head?_dropWhile_not (fun s : SubM => decide (s.v < v)) l
 rw [h2, List.head?_drop, List.getElem?_eq_getElem hk] at h3
 simp [h] at h3
theorem wR (u : List TyI) : decide ((u.length : Int) > 200) = decide (200 < u.length) := by rw [Bool.eq_iff_iff]; simp; omega
theorem c_spanOfA (ys : List TyI) (hi : ∀ y ∈ ys, 0 <= y.ar /\ y.ar <= 2) (hl : ys.length <= 1000000) (i e : Nat) (h : endM ys i = e) : FCon Tryz.prog 194 [.sl 3 (ys.map TyI.enc), .s (.int .i64 i)] (fun r _ => r = .s (.int .i64 e)) := by
 have hbd := vm ys i e h
 refine FI PM Tryz.func194 Tryz.ntmps194 [] rfl rfl ?_
 (have hWf := f0; repeat' (first | refine zS ?_ | refine zI ?_ ?_ | exact zF0 | refine zD fun hb => ?_ | exact zC | refine zT ?_ | fail))
 refine xd (fun n σ => ∃ m k : Nat, k <= ys.length /\ n = ys.length - k /\ σ.t 0 = .sl 3 (ys.map TyI.enc) /\ σ.t 1 = .s (.int .i64 k) /\ σ.t 5 = .s (.int .i64 m) /\ xT ys k m = e /\ m <= 2 * k + 1) (ys.length - i) ⟨1, i, by omega, rfl, ?_⟩ ?_
 ·simp only [go_sem, simprocAttr, Int.natCast_one]
  all_goals first | exact ⟨by rw [<- Yv]; exact h, by omega⟩ | (rw [<- Yv]; exact h)
 ·rintro n σ ⟨m, k, hk, rfl, h0, h1, h5, he, hm⟩ K' hK
  cases m with
  | zero =>
   rw [ve] at he
   (have hWf := w4 @h0 @h1 @h5 @Int.natCast_zero; repeat' (first | refine zS ?_ | refine zI ?_ ?_ | exact zF0 | refine zD fun hb => ?_ | exact zC | refine zT ?_ | fail))
   rw [he]
  | succ m =>
   rcases Nat.lt_or_ge k ys.length with hlt | hge
   ·have hx := xb TyI.enc ys k hlt
    have hxe := TyI.enc_eq ys[k]
    obtain ⟨a0, a1⟩ := hi _ (List.getElem_mem hlt)
    have e1 : decide (((m + 1 : Nat) : Int) > 0) = true := by simp
    rw [xas ys k m hlt] at he
    (have hWf := w6 @h0 @h1 @h5 @hx @hxe @e1; repeat' (first | refine zS ?_ | refine zI ?_ ?_ | exact zF0 | refine zD fun hb => ?_ | exact zC | refine zT ?_ | fail))
    refine hK (ys.length - (k + 1)) _ (by omega) ⟨m + ys[k].ar.toNat, k + 1, by omega, rfl, ?_⟩
    simp only [go_sem, simprocAttr, h0, h1, h5, Int.natCast_succ]
    exact ⟨xq (by omega), he, by omega⟩
   ·rw [endsM_out ys k m hge] at he
    omega
theorem xaj (ys : List TyI) (hi : ∀ y ∈ ys, 0 <= y.ar /\ y.ar <= 2) (hl : ys.length <= 1000000) (k f : Nat) (h : endM ys k = f) : FCon Tryz.prog 132 [.ag [.sl 3 (ys.map TyI.enc)], .s (.int .i64 k)] (fun r _ => r = .ag [.osl 143 3 ((seg ys k f).map TyI.own)]) := by
 have hbd := vm ys k f h
 have hcc := ug ys.length ys hi (by omega) k (by omega)
 rw [h] at hcc
 have hsg := seg_enc ys k f
 have hsl := Ug (k := k) hbd.2.1
 refine FI PM Tryz.func132 Tryz.ntmps132 [(1, 8, [0], [(0, 1), (0, 2), (0, 3), (0, 4), (0, 5), (0, 6), (0, 7)], (lin [0] [1, 2, 3, 4, 5, 6, 7, 0]))] rfl rfl ?_
 (have hWf := w2 @hsg @hsl; repeat' (first | refine zS ?_ | refine zI ?_ ?_ | refine zK hcc ?_ | exact zF0 | refine zD fun hb => ?_ | exact zC | refine zT ?_ | fail))
theorem Zo (ys : List TyI) (hi : ∀ y ∈ ys, 0 <= y.ar /\ y.ar <= 2) (hl : ys.length <= 1000000) (k f : Nat) (h : endM ys k = f) : FCon Tryz.prog 132 [.ag [.sl 3 (ys.map TyI.enc)], .s (.int .i64 k)] (fun r _ => r = .ag [.sl 3 ((seg ys k f).map TyI.enc)]) := FCon.ice ((xaj ys hi hl k f h).mono fun r o e => by
 subst e
 simp only [frA, frzL, frz, TyI.frzS, List.map_cons, List.map_nil])
def wfT (xs : List TyI) : Prop := (∀ x ∈ xs, 0 <= x.ar /\ x.ar <= 2) /\ endM xs 0 = xs.length
def pN (xs : List TyI) (n : Nat) : Nat := (xT xs 1 n).toNat
def kid (xs : List TyI) (n : Nat) : List TyI := seg xs (pN xs n) (pN xs (n + 1))
def kids (xs : List TyI) (m : Nat) : List (List TyI) := (List.range m).map (kid xs)
theorem yR {xs : List TyI} (h : wfT xs) : 0 < xs.length := by
 rcases Nat.eq_zero_or_pos xs.length with q | q
 ·have := h.2
  rw [ZJ xs 0 (by omega), q] at this; cases this
 ·exact q
theorem Ul {xs : List TyI} (h : wfT xs) : xT xs 1 (xs[0]'(yR h)).ar.toNat = xs.length := by rw [<- h.2, vV xs 0 (yR h)]
theorem wg {xs : List TyI} (h : wfT xs) {n : Nat} (hn : n <= (xs[0]'(yR h)).ar.toNat) : xT xs 1 n = pN xs n /\ 1 <= pN xs n /\ pN xs n <= xs.length := by
 have hp := yR h
 rcases ZL xs 1 n (by omega) with q | ⟨m, q, q1, q2⟩
 ·have := UE xs 1 n (by omega) _ hn
  rw [Ul h] at this; omega
 ·unfold pN; rw [q]; exact ⟨by simp, by simpa using q1, by simpa using q2⟩
theorem vr {xs : List TyI} (h : wfT xs) {n : Nat} (hn : n < (xs[0]'(yR h)).ar.toNat) : endM xs (pN xs n) = pN xs (n + 1) := by
 rw [<- (wg h (n := n + 1) (by omega)).1]
 exact (Wu xs 1 n _ (wg h (n := n) (by omega)).1).symm
theorem Y9 (xs : List TyI) : pN xs 0 = 1 := by unfold pN; rw [ve]; rfl
theorem vA (xs : List TyI) (m : Nat) : (kids xs m).length = m := by simp [kids]
theorem kids_succ (xs : List TyI) (m : Nat) : kids xs (m + 1) = kids xs m ++ [kid xs m] := by unfold kids; rw [List.range_succ, List.map_append]; rfl
def kE (xs : List TyI) : List D := [.sl 3 (xs.map TyI.enc)]
theorem kE_eq (xs : List TyI) : kE xs = [.sl 3 (xs.map TyI.enc)] := rfl
theorem VM (xs : List TyI) (hw : wfT xs) (hl : xs.length <= 1000000) : FCon Tryz.prog 151 [.sl 3 (xs.map TyI.enc)] (fun r _ => r = .osl 29 1 ((kids xs (xs[0]'(yR hw)).ar.toNat).map kE)) := by
 have hp := yR hw
 have hx0 := xb TyI.enc xs 0 hp
 have he0 := TyI.enc_eq xs[0]
 have hr := hw.1 _ (List.getElem_mem hp)
 have hlp : decide ((0 : Int) < xs.length) = true := by simp; omega
 refine FI PM Tryz.func151 Tryz.ntmps151 [] rfl rfl ?_
 (have hWf := w3 @hx0 @he0 @hlp; repeat' (first | refine zS ?_ | refine zI ?_ ?_ | exact zF0 | refine zD fun hb => ?_ | exact zC | refine zT ?_ | fail))
 refine xd (fun n σ => ∃ k : Nat, k <= xs[0].ar.toNat /\ n = xs[0].ar.toNat - k /\ σ.t 0 = .sl 3 (xs.map TyI.enc) /\ σ.t 3 = .bs 6 1 k /\ σ.t 4 = .s (.int .i64 (pN xs k)) /\ σ.t 10 = .s (.int .i64 xs[0].ar) /\ σ.t 11 = .s (.int .i64 k) /\ σ.b 6 = some (.arr 29 1 ((kids xs k).map kE))) xs[0].ar.toNat ⟨0, by omega, by omega, ?_⟩ ?_
 ·simp only [go_sem, simprocAttr, Int.natCast_zero, Y9, kids, List.range_zero]
 ·rintro n σ ⟨k, hk, rfl, h0, h3, h4, h10, h11, h6⟩ K' hK
  by_cases hlt : k < xs[0].ar.toNat
  ·have hs := vr hw hlt
   have hq := wg hw (n := k) (by omega)
   have hq1 := wg hw (n := k + 1) (by omega)
   have hbd := vm xs (pN xs k) _ hs
   have hsg := seg_enc xs (pN xs k) (pN xs (k + 1))
   have hkl := vA xs k
   (have hWf := w8 @h0 @h3 @h4 @h10 @h11 @h6 @hsg @hkl; repeat' (first | refine zS ?_ | refine zI ?_ ?_ | refine zK (c_spanOfA xs hw.1 hl (pN xs k) (pN xs (k + 1)) hs) ?_ | exact zF0 | refine zD fun hb => ?_ | exact zC | refine zT ?_ | fail))
   refine hK (xs[0].ar.toNat - (k + 1)) _ (by omega) ⟨k + 1, by omega, rfl, ?_⟩
   simp only [go_sem, simprocAttr, h0, h3, h4, h10, h11, h6, Int.natCast_succ, kids_succ, List.map_append, kE_eq, kid]
  ·obtain rfl : k = xs[0].ar.toNat := by omega
   have hkl := vA xs xs[0].ar.toNat
   have htk : List.take xs[0].ar.toNat (List.map kE (kids xs xs[0].ar.toNat)) = List.map kE (kids xs xs[0].ar.toNat) := List.take_of_length_le (by rw [List.length_map, vA]; exact Nat.le_refl _)
   (have hWf := w8 @h0 @h3 @h4 @h10 @h11 @h6 @hkl @htk; repeat' (first | refine zS ?_ | refine zI ?_ ?_ | exact zF0 | refine zD fun hb => ?_ | exact zC | refine zT ?_ | fail))
def y6 (f : List SubM -> List TyI -> List TyI -> Option (List SubM × Int)) (X Y : List TyI) : Nat -> Nat -> List SubM -> Option (List SubM × Int)
 | 0, _, l => some (l, 0)
 | m + 1, n, l => match f l (kid X n) (kid Y n) with
  | none => none
  | some r => if r.2 = 0 then y6 f X Y m (n + 1) r.1 else some r
def Y1 (f : List SubM -> List TyI -> List TyI -> Option (List SubM × Int)) (l : List SubM) (X Y : List TyI) (a b : TyI) : Option (List SubM × Int) :=
 if varB a = true then
  if varB b = true then
   if a.v = b.v then some (l, 0) else if a.v < b.v then some (xv l b.v X) else some (xv l a.v Y)
  else some (xv l a.v Y)
 else if varB b = true then some (xv l b.v X)
 else if a.name.toList ≠ b.name.toList \/ a.ar ≠ b.ar then some (l, 2)
 else y6 f X Y a.ar.toNat 0 l
def uniM : Nat -> List SubM -> List TyI -> List TyI -> Option (List SubM × Int)
 | 0, _, _, _ => none
 | n + 1, l, x, y => match (putX l x)[0]?, (putX l y)[0]? with
  | some a, some b => Y1 (uniM n) l (putX l x) (putX l y) a b
  | _, _ => none
def Yf (P : List SubM -> List TyI -> List TyI -> Prop) (f : List SubM -> List TyI -> List TyI -> Option (List SubM × Int)) (X Y : List TyI) : Nat -> Nat -> List SubM -> Prop
 | 0, _, _ => True
 | m + 1, n, l => P l (kid X n) (kid Y n) /\ ∀ l', f l (kid X n) (kid Y n) = some (l', 0) -> Yf P f X Y m (n + 1) l'
structure UStep (l : List SubM) (x y : List TyI) : Prop where
 lx : x.length <= 1000000
 ly : y.length <= 1000000
 ll : l.length <= 3000000
 lX : (putX l x).length <= 1000000
 lY : (putX l y).length <= 1000000
 wX : wfT (putX l x)
 wY : wfT (putX l y)
 rise : l.Pairwise (fun a b => a.v < b.v)
 out : ∀ v, v ∈ xm (putX l x) \/ v ∈ xm (putX l y) -> ∀ s ∈ l, s.v ≠ v
 sm : ∀ s ∈ l, s.ty.length <= 1000000
 smp : ∀ (v : Int) (u : List TyI), u = putX l x \/ u = putX l y -> ∀ s ∈ l, (putX [⟨v, u⟩] s.ty).length <= 1000000000
def UOk : Nat -> List SubM -> List TyI -> List TyI -> Prop
 | 0, _, _, _ => False
 | n + 1, l, x, y => UStep l x y /\ ∀ a b, (putX l x)[0]? = some a -> (putX l y)[0]? = some b -> varB a = false -> varB b = false -> a.name.toList = b.name.toList -> a.ar = b.ar -> Yf (UOk n) (uniM n) (putX l x) (putX l y) a.ar.toNat 0 l
theorem Xu {x : TyI} (h : varB x = true) : (x.name.toList == []) = true := by unfold varB at h; simpa using h
theorem Xt {x : TyI} (h : varB x = false) : (x.name.toList == []) = false := by unfold varB at h; simpa using h
theorem zJ (xs : List TyI) (l : List SubM) (hl : xs.length <= 1000000000) (hl2 : l.length <= 3000000) (hu : l.Pairwise (fun a b => a.v ≠ b.v)) (hb0 : (putX l xs).length <= 2199023255552) : FCon Tryz.prog 39 [.ag [.sl 3 (xs.map TyI.enc)], .sl 2 (l.map SubM.enc)] (fun r _ => r = .ag [.sl 3 ((putX l xs).map TyI.enc)]) := FCon.ice ((xag xs l hl hl2 hu hb0).mono fun r o e => by
 subst e
 simp only [frA, frzL, frz, TyI.frzS, List.map_cons, List.map_nil])
def outK (l : List SubM) (v : Int) (u : List TyI) (k : Nat) : List SubM := if k <= cntU l v then (xw l v u).take k else insL ((xw l v u).take k) (cntU l v) ⟨v, u⟩
theorem Qa (l : List SubM) (i : Nat) (x : SubM) (h : i <= l.length) : (insL l i x).length = l.length + 1 := by
 simp only [insL, List.length_append, List.length_cons, List.length_take, List.length_drop, Nat.min_def]; split <;> omega
theorem W6 {l : List SubM} {k : Nat} (v : Int) (u : List TyI) (h : k < l.length) : (xw l v u).take (k + 1) = (xw l v u).take k ++ [⟨l[k].v, putX [⟨v, u⟩] l[k].ty⟩] := by
 have h' : k < (xw l v u).length := by rw [yF]; exact h
 rw [List.take_succ_eq_append_getElem h']
 congr 2
 simp [xw]
theorem we {l : List SubM} {k : Nat} (v : Int) (u : List TyI) (h : k <= l.length) : ((xw l v u).take k).length = k := by rw [List.length_take, yF]; exact Nat.min_eq_left h
theorem ZX {l : List SubM} {v : Int} {u : List TyI} {k : Nat} (h : k <= l.length) : (outK l v u k).length = if k <= cntU l v then k else k + 1 := by
 unfold outK
 split
 ·exact we v u h
 ·rw [Qa _ _ _ (by rw [we v u h]; omega), we v u h]
theorem UZ {l : List SubM} {v : Int} {u : List TyI} {k : Nat} (h : k < l.length) (hc : k ≠ cntU l v) : outK l v u (k + 1) = outK l v u k ++ [⟨l[k].v, putX [⟨v, u⟩] l[k].ty⟩] := by
 unfold outK
 by_cases q : k < cntU l v
 ·rw [if_pos (by omega), if_pos (by omega)]; exact W6 v u h
 ·rw [if_neg (by omega), if_neg (by omega), insL, insL, W6 v u h, List.take_append_of_le_length (by rw [we v u (by omega)]; omega), List.drop_append_of_le_length (by rw [we v u (by omega)]; omega)]
  simp
theorem outK_at {l : List SubM} {v : Int} {u : List TyI} (h : cntU l v < l.length) : outK l v u (cntU l v + 1) = (outK l v u (cntU l v) ++ [⟨v, u⟩]) ++ [⟨l[cntU l v].v, putX [⟨v, u⟩] l[cntU l v].ty⟩] := by
 unfold outK
 rw [if_neg (by omega), if_pos (Nat.le_refl _), insL, W6 v u h, List.take_append_of_le_length (by rw [we v u (by omega)]; omega), List.take_of_length_le (by rw [we v u (by omega)]; omega), List.drop_append_of_le_length (by rw [we v u (by omega)]; omega), List.drop_of_length_le (by rw [we v u (by omega)]; omega)]
 simp
theorem outK_end {l : List SubM} {v : Int} {u : List TyI} (h : cntU l v < l.length) : outK l v u l.length = xp l v u := by
 unfold outK xp
 rw [if_neg (by omega), List.take_of_length_le (by rw [yF]; exact Nat.le_refl _)]
theorem outK_fin {l : List SubM} {v : Int} {u : List TyI} (h : cntU l v = l.length) : outK l v u l.length ++ [⟨v, u⟩] = xp l v u := by
 unfold outK xp insL
 have e : (xw l v u).length = l.length := yF l v u
 rw [if_pos (by omega), h, List.drop_of_length_le (by omega)]
theorem bigU_ins (l : List SubM) (i : Nat) (x : SubM) : bigU (insL l i x) = (decide (200 < x.ty.length) || bigU l) := by
 unfold bigU insL
 rw [List.any_append, List.any_cons]
 have : l.any (fun s => decide (200 < s.ty.length)) = ((l.take i).any (fun s => decide (200 < s.ty.length)) || (l.drop i).any (fun s => decide (200 < s.ty.length))) := by
  rw [<- List.any_append, List.take_append_drop]
 rw [this]
 cases (l.take i).any (fun s => decide (200 < s.ty.length)) <;> cases decide (200 < x.ty.length) <;> simp
def IceR (d r : D) : Prop := frA r = d
def ansU (r : List SubM × Int) : D := .tup [if r.2 = 0 then .sl 2 (r.1.map SubM.enc) else .nil, .s (.int .i64 r.2)]
theorem Zl {l : List SubM} {k : Nat} (h : k < l.length) (hn : bigU (l.take k) = false) (hk : decide (200 < l[k].ty.length) = false) : bigU (l.take (k + 1)) = false := by
 rw [List.take_succ_eq_append_getElem h, VH, hn, hk]; rfl
theorem bigU_at {l : List SubM} {k : Nat} (h : k < l.length) (hk : decide (200 < l[k].ty.length) = true) : bigU l = true := List.any_eq_true.2 ⟨l[k], List.getElem_mem h, hk⟩
theorem xah (l : List SubM) (v : Int) (u : List TyI) (hl : l.length <= 3000000) (hu : u.length <= 1000000) (hp : l.Pairwise (fun a b => a.v < b.v)) (hv0 : ∀ s ∈ l, s.v ≠ v) (hs : ∀ s ∈ l, s.ty.length <= 1000000 /\ (putX [⟨v, u⟩] s.ty).length <= 1000000000) :
  FCon Tryz.prog 131 [.sl 2 (l.map SubM.enc), .s (.int .i64 v), .ag [.sl 3 (u.map TyI.enc)]] (fun r _ => IceR (ansU (xv l v u)) r) := by
 by_cases hv : v ∈ xm u
 ·have hmem : decide (v ∈ zo u) = true := decide_eq_true ((Vi u v).2 hv)
  have hbm : xv l v u = (l, 3) := by unfold xv; rw [if_pos hv]
  rw [hbm]
  refine FI PM Tryz.func131 Tryz.ntmps131 [(12, 9, [], [], (lin [] [0, 1, 2, 3, 4, 5, 6, 7, 8]))] rfl rfl ?_
  (have hWf := w1 @hmem; repeat' (first | refine zS ?_ | refine zI ?_ ?_ | ((with_reducible apply xc); refine zG (vS u (by omega)) ?_) | refine zU (vS u (by omega)) ?_ | refine zK (VN (zo u) v) ?_ | exact zF0 | refine zD fun hb => ?_ | exact zC | refine zT ?_ | fail))
  all_goals rfl
 ·have hmem : decide (v ∈ zo u) = false := decide_eq_false fun q => hv ((Vi u v).1 q)
  have hbm : xv l v u = (xp l v u, if bigU (xp l v u) = true then 4 else 0) := by unfold xv; rw [if_neg hv, xp, bigU_ins]
  rw [hbm]
  refine FI PM Tryz.func131 Tryz.ntmps131 [(12, 9, [], [], (lin [] [0, 1, 2, 3, 4, 5, 6, 7, 8]))] rfl rfl ?_
  (have hWf := w1 @hmem; repeat' (first | refine zS ?_ | refine zI ?_ ?_ | ((with_reducible apply xc); refine zG (vS u (by omega)) ?_) | refine zU (vS u (by omega)) ?_ | refine zK (VN (zo u) v) ?_ | exact zF0 | refine zD fun hb => ?_ | exact zC | refine zT ?_ | fail))
  refine uE (yS 22 (.arr 160 2 [[.s (.int .i64 v), .sl 3 (u.map TyI.enc)]]) (by simp only [go_sem, simprocAttr]) rfl (xj ?_))
  simp only [go_sem, simprocAttr]
  refine xd (fun n σ => ∃ k : Nat, k <= l.length /\ n = l.length - k /\ σ.t 1 = .s (.int .i64 v) /\ σ.t 8 = .sl 2 [[.s (.int .i64 v), .sl 3 (u.map TyI.enc)]] /\ σ.t 9 = .bs 23 2 (outK l v u k).length /\ σ.t 10 = .s (.bool (decide (cntU l v < k))) /\ σ.t 24 = .sl 2 (l.map SubM.enc) /\ σ.t 25 = .s (.int .i64 l.length) /\ σ.t 26 = .s (.int .i64 k) /\
   σ.b 23 = some (.arr 160 2 ((outK l v u k).map SubM.enc))) l.length ⟨0, by omega, by omega, ?_⟩ ?_
  ·have e0 : outK l v u 0 = [] := by unfold outK; rw [if_pos (Nat.zero_le _)]; rfl
   simp only [go_sem, simprocAttr, Int.natCast_zero, e0, List.map_nil, List.length_nil, Nat.not_lt_zero]
  ·rintro n σ ⟨k, hk, rfl, h1, h8, h9, h10, h24, h25, h26, b1⟩ K' hK
   have hcl := YW l v
   by_cases hlt : k < l.length
   ·have hx := xb SubM.enc l k hlt
    have he := SubM.enc_eq l[k]
    have hsk := hs l[k] (List.getElem_mem hlt)
    have hne := hv0 l[k] (List.getElem_mem hlt)
    have cA := zJ l[k].ty [⟨v, u⟩] (by omega) (by simp) (by simp) (by omega)
    have hol := ZX (u := u) (v := v) (Nat.le_of_lt hlt)
    have hol1 := ZX (u := u) (v := v) (Nat.succ_le_of_lt hlt)
    have hob : (outK l v u k).length <= 3000001 := by rw [hol]; split <;> omega
    rcases Nat.lt_trichotomy k (cntU l v) with q | q | q
    ·have e1 : decide (cntU l v < k) = false := decide_eq_false (by omega)
     have e2 : decide (cntU l v < k + 1) = false := decide_eq_false (by omega)
     have e3 : decide (v < l[k].v) = false := decide_eq_false (by have := WR q hlt; omega)
     have hst := UZ (u := u) hlt (by omega : k ≠ cntU l v)
     (have hWf := w10 @h1 @h8 @h9 @h10 @h24 @h25 @h26 @b1 @hx (ai @he <| ai @e1 <| @e3); repeat' (first | refine zS ?_ | refine zI ?_ ?_ | refine zK cA ?_ | exact zF0 | refine zD fun hb => ?_ | exact zC | refine zT ?_ | fail))
     refine hK (l.length - (k + 1)) _ (by omega) ⟨k + 1, by omega, rfl, ?_⟩
     simp only [go_sem, simprocAttr, h1, h8, h9, h10, h24, h25, h26, b1, Int.natCast_succ, hst, List.map_append, SubM.enc_eq, e1, e2, List.length_append]
    ·subst q
     have e1 : decide (cntU l v < cntU l v) = false := decide_eq_false (by omega)
     have e2 : decide (cntU l v < cntU l v + 1) = true := decide_eq_true (by omega)
     have e3 : decide (v < l[cntU l v].v) = true := decide_eq_true (by have := WQ hlt; omega)
     have hst := outK_at (u := u) hlt
     (have hWf := w10 @h1 @h8 @h9 @h10 @h24 @h25 @h26 @b1 @hx (ai @he <| ai @e1 <| @e3); repeat' (first | refine zS ?_ | refine zI ?_ ?_ | refine zK cA ?_ | exact zF0 | refine zD fun hb => ?_ | exact zC | refine zT ?_ | fail))
     refine hK (l.length - (cntU l v + 1)) _ (by omega) ⟨cntU l v + 1, by omega, rfl, ?_⟩
     simp only [go_sem, simprocAttr, h1, h8, h9, h10, h24, h25, h26, b1, Int.natCast_succ, hst, List.map_append, SubM.enc_eq, e1, e2, List.length_append, List.append_assoc, Nat.add_assoc]
    ·have e1 : decide (cntU l v < k) = true := decide_eq_true (by omega)
     have e2 : decide (cntU l v < k + 1) = true := decide_eq_true (by omega)
     have hst := UZ (u := u) hlt (by omega : k ≠ cntU l v)
     (have hWf := w10 @h1 @h8 @h9 @h10 @h24 @h25 @h26 @b1 @hx (ai @he <| @e1); repeat' (first | refine zS ?_ | refine zI ?_ ?_ | refine zK cA ?_ | exact zF0 | refine zD fun hb => ?_ | exact zC | refine zT ?_ | fail))
     refine hK (l.length - (k + 1)) _ (by omega) ⟨k + 1, by omega, rfl, ?_⟩
     simp only [go_sem, simprocAttr, h1, h8, h9, h10, h24, h25, h26, b1, Int.natCast_succ, hst, List.map_append, SubM.enc_eq, e1, e2, List.length_append]
   ·obtain rfl : k = l.length := by omega
    have hbl : (xp l v u).length = l.length + 1 := by unfold xp; rw [Qa _ _ _ (by rw [yF]; exact hcl), yF]
    by_cases q : cntU l v < l.length
    ·have e1 : decide (cntU l v < l.length) = true := decide_eq_true q
     rw [outK_end q] at h9 b1
     (have hWf := w9 @h1 @h8 @h9 @h10 @h24 @h25 @h26 @b1 @e1; repeat' (first | refine zS ?_ | refine zI ?_ ?_ | exact zF0 | refine zD fun hb => ?_ | exact zC | refine zT ?_ | fail))
     refine xd (fun n σ => ∃ k : Nat, k <= (xp l v u).length /\ n = (xp l v u).length - k /\ σ.t 9 = .bs 23 2 (l.length + 1) /\ σ.t 63 = .bs 23 2 (l.length + 1) /\ σ.t 64 = .s (.int .i64 ((l.length + 1 : Nat) : Int)) /\ σ.t 65 = .s (.int .i64 k) /\ σ.b 23 = some (.arr 160 2 ((xp l v u).map SubM.enc)) /\ bigU ((xp l v u).take k) = false) (xp l v u).length ⟨0, by omega, by omega, ?_⟩ ?_
     ·simp only [go_sem, simprocAttr, h9, b1, hbl, Int.natCast_zero, List.take_zero]
      all_goals rfl
     ·rintro n σ ⟨k, hk, rfl, h9, h63, h64, h65, b1, hno⟩ K' hK
      by_cases hlt : k < (xp l v u).length
      ·have hx := xb SubM.enc (xp l v u) k hlt
       have he := SubM.enc_eq (xp l v u)[k]
       cases e2 : decide (200 < (xp l v u)[k].ty.length) with
       | true =>
        have e3 : decide (((xp l v u)[k].ty.length : Int) > 200) = true := by rw [wR]; exact e2
        (have hWf := w9 @h9 @h63 @h64 @h65 @b1 @hx @he @e3 @hbl; repeat' (first | refine zS ?_ | refine zI ?_ ?_ | exact zF0 | refine zD fun hb => ?_ | exact zC | refine zT ?_ | fail))
        all_goals (show _ = _; rw [bigU_at hlt e2]; rfl)
       | false =>
        have e3 : decide (((xp l v u)[k].ty.length : Int) > 200) = false := by rw [wR]; exact e2
        (have hWf := w9 @h9 @h63 @h64 @h65 @b1 @hx @he @e3 @hbl; repeat' (first | refine zS ?_ | refine zI ?_ ?_ | exact zF0 | refine zD fun hb => ?_ | exact zC | refine zT ?_ | fail))
        refine hK ((xp l v u).length - (k + 1)) _ (by omega) ⟨k + 1, by omega, rfl, ?_⟩
        simp only [go_sem, simprocAttr, h9, h63, h64, h65, b1, Int.natCast_succ]
        exact Zl hlt hno e2
      ·obtain rfl : k = (xp l v u).length := by omega
       rw [List.take_length] at hno
       have htk : List.take (l.length + 1) (List.map SubM.enc (xp l v u)) = List.map SubM.enc (xp l v u) := List.take_of_length_le (by rw [List.length_map, hbl]; exact Nat.le_refl _)
       (have hWf := w7 @h9 @h63 @h64 @h65 @b1 @hbl @htk; repeat' (first | refine zS ?_ | refine zI ?_ ?_ | exact zF0 | refine zD fun hb => ?_ | exact zC | refine zT ?_ | fail))
       all_goals (show _ = _; rw [hno]; simp only [ansU, frA, frz, SubM.frzE, List.map_cons, List.map_nil]; rfl)
    ·have e1 : decide (cntU l v < l.length) = false := decide_eq_false q
     have hap := outK_fin (u := u) (by omega : cntU l v = l.length)
     have hol := ZX (u := u) (v := v) (Nat.le_refl l.length)
     rw [if_pos (by omega)] at hol
     have hap2 : List.map SubM.enc (outK l v u l.length) ++ [[.s (.int .i64 v), .sl 3 (u.map TyI.enc)]] = List.map SubM.enc (xp l v u) := by rw [<- hap, List.map_append]; rfl
     (have hWf := w10 @h1 @h8 @h9 @h10 @h24 @h25 @h26 @b1 @e1 @hol; repeat' (first | refine zS ?_ | refine zI ?_ ?_ | exact zF0 | refine zD fun hb => ?_ | exact zC | refine zT ?_ | fail))
     refine xd (fun n σ => ∃ k : Nat, k <= (xp l v u).length /\ n = (xp l v u).length - k /\ σ.t 9 = .bs 23 2 (l.length + 1) /\ σ.t 63 = .bs 23 2 (l.length + 1) /\ σ.t 64 = .s (.int .i64 ((l.length + 1 : Nat) : Int)) /\ σ.t 65 = .s (.int .i64 k) /\ σ.b 23 = some (.arr 160 2 ((xp l v u).map SubM.enc)) /\ bigU ((xp l v u).take k) = false) (xp l v u).length ⟨0, by omega, by omega, ?_⟩ ?_
     ·simp only [go_sem, simprocAttr, h9, b1, hbl, hap2, Int.natCast_zero, List.take_zero]
      all_goals rfl
     ·rintro n σ ⟨k, hk, rfl, h9, h63, h64, h65, b1, hno⟩ K' hK
      by_cases hlt : k < (xp l v u).length
      ·have hx := xb SubM.enc (xp l v u) k hlt
       have he := SubM.enc_eq (xp l v u)[k]
       cases e2 : decide (200 < (xp l v u)[k].ty.length) with
       | true =>
        have e3 : decide (((xp l v u)[k].ty.length : Int) > 200) = true := by rw [wR]; exact e2
        (have hWf := w9 @h9 @h63 @h64 @h65 @b1 @hx @he @e3 @hbl; repeat' (first | refine zS ?_ | refine zI ?_ ?_ | exact zF0 | refine zD fun hb => ?_ | exact zC | refine zT ?_ | fail))
        all_goals (show _ = _; rw [bigU_at hlt e2]; rfl)
       | false =>
        have e3 : decide (((xp l v u)[k].ty.length : Int) > 200) = false := by rw [wR]; exact e2
        (have hWf := w9 @h9 @h63 @h64 @h65 @b1 @hx @he @e3 @hbl; repeat' (first | refine zS ?_ | refine zI ?_ ?_ | exact zF0 | refine zD fun hb => ?_ | exact zC | refine zT ?_ | fail))
        refine hK ((xp l v u).length - (k + 1)) _ (by omega) ⟨k + 1, by omega, rfl, ?_⟩
        simp only [go_sem, simprocAttr, h9, h63, h64, h65, b1, Int.natCast_succ]
        exact Zl hlt hno e2
      ·obtain rfl : k = (xp l v u).length := by omega
       rw [List.take_length] at hno
       have htk : List.take (l.length + 1) (List.map SubM.enc (xp l v u)) = List.map SubM.enc (xp l v u) := List.take_of_length_le (by rw [List.length_map, hbl]; exact Nat.le_refl _)
       (have hWf := w7 @h9 @h63 @h64 @h65 @b1 @hbl @htk; repeat' (first | refine zS ?_ | refine zI ?_ ?_ | exact zF0 | refine zD fun hb => ?_ | exact zC | refine zT ?_ | fail))
       all_goals (show _ = _; rw [hno]; simp only [ansU, frA, frz, SubM.frzE, List.map_cons, List.map_nil]; rfl)
theorem Uw (l : List SubM) (v : Int) (u : List TyI) (hl : l.length <= 3000000) (hu : u.length <= 1000000) (hp : l.Pairwise (fun a b => a.v < b.v)) (hv0 : ∀ s ∈ l, s.v ≠ v) (hs : ∀ s ∈ l, s.ty.length <= 1000000 /\ (putX [⟨v, u⟩] s.ty).length <= 1000000000) :
  FCon Tryz.prog 131 [.sl 2 (l.map SubM.enc), .s (.int .i64 v), .ag [.sl 3 (u.map TyI.enc)]] (fun r _ => r = ansU (xv l v u)) := FCon.ice ((xah l v u hl hu hp hv0 hs).mono fun _ _ h => h)
theorem ansU_z (l : List SubM) : ansU (l, 0) = .tup [.sl 2 (l.map SubM.enc), .s (.int .i64 0)] := rfl
theorem wN {r : List SubM × Int} (h : r.2 ≠ 0) : ansU r = .tup [.nil, .s (.int .i64 r.2)] := by unfold ansU; rw [if_neg h]
theorem Yh {r : List SubM × Int} (h : r.2 = 0) : ansU r = .tup [.sl 2 (r.1.map SubM.enc), .s (.int .i64 0)] := by unfold ansU; rw [if_pos h, h]
theorem Wj : ∀ (n : Nat) (l : List SubM) (x y : List TyI) (r : List SubM × Int), UOk n l x y -> uniM n l x y = some r ->
  FCon Tryz.prog 81 [.ag [.sl 3 (x.map TyI.enc)], .ag [.sl 3 (y.map TyI.enc)], .sl 2 (l.map SubM.enc)] (fun q _ => q = ansU r)
 | 0, l, x, y, r, h, _ => h.elim
 | n + 1, l, x, y, r, h, hr => by
  obtain ⟨U, hk⟩ := h
  have hX := yR U.wX
  have hY := yR U.wY
  have eX := List.getElem?_eq_getElem hX
  have eY := List.getElem?_eq_getElem hY
  have ih := Wj n
  rw [uniM, eX, eY] at hr
  replace hk := hk _ _ eX eY
  simp only at hr
  have hx0 := xb TyI.enc (putX l x) 0 hX
  have hy0 := xb TyI.enc (putX l y) 0 hY
  have hdif : l.Pairwise (fun a b => a.v ≠ b.v) := U.rise.imp fun h => by omega
  have px := zJ x l (by have := U.lx; omega) (by have := U.ll; omega) hdif (by have := U.lX; omega)
  have py := zJ y l (by have := U.ly; omega) (by have := U.ll; omega) hdif (by have := U.lY; omega)
  have hlx : decide ((0 : Int) < (putX l x).length) = true := by simp; omega
  have hly : decide ((0 : Int) < (putX l y).length) = true := by simp; omega
  have hvX : varB (putX l x)[0] = true -> (putX l x)[0].v ∈ xm (putX l x) := fun h => (varsM_mem' _ _).2 ⟨_, List.getElem_mem hX, h, rfl⟩
  have hvY : varB (putX l y)[0] = true -> (putX l y)[0].v ∈ xm (putX l y) := fun h => (varsM_mem' _ _).2 ⟨_, List.getElem_mem hY, h, rfl⟩
  obtain ⟨lX, lY, sm, smp, ll, wX, wY, rise, out⟩ : (putX l x).length <= 1000000 /\ (putX l y).length <= 1000000 /\ (∀ s ∈ l, s.ty.length <= 1000000) /\ (∀ (v : Int) (u : List TyI), u = putX l x \/ u = putX l y -> ∀ s ∈ l, (putX [⟨v, u⟩] s.ty).length <= 1000000000) /\ l.length <= 3000000 /\ wfT (putX l x) /\ wfT (putX l y) /\ l.Pairwise (fun a b => a.v < b.v) /\ (∀ v, v ∈ xm (putX l x) \/ v ∈ xm (putX l y) -> ∀ s ∈ l, s.v ≠ v) := ⟨U.lX, U.lY, U.sm, U.smp, U.ll, U.wX, U.wY, U.rise, U.out⟩
  generalize hXX : putX l x = X at *
  generalize hYY : putX l y = Y at *
  clear hXX hYY U
  obtain ⟨a, ha⟩ : ∃ a, a = X[0] := ⟨_, rfl⟩
  obtain ⟨b, hb0⟩ : ∃ b, b = Y[0] := ⟨_, rfl⟩
  have hea := TyI.enc_eq a
  have heb := TyI.enc_eq b
  rw [<- ha] at hx0 hr hk hvX
  rw [<- hb0] at hy0 hr hk hvY
  unfold Y1 at hr
  have bX : varB b = true -> FCon Tryz.prog 131 [.sl 2 (l.map SubM.enc), .s (.int .i64 b.v), .ag [.sl 3 (X.map TyI.enc)]] (fun r _ => r = ansU (xv l b.v X)) := fun h => Uw l b.v X ll lX rise (out _ (.inr (hvY h))) fun s hs => ⟨sm s hs, smp b.v X (.inl rfl) s hs⟩
  have bY : varB a = true -> FCon Tryz.prog 131 [.sl 2 (l.map SubM.enc), .s (.int .i64 a.v), .ag [.sl 3 (Y.map TyI.enc)]] (fun r _ => r = ansU (xv l a.v Y)) := fun h => Uw l a.v Y ll lY rise (out _ (.inl (hvX h))) fun s hs => ⟨sm s hs, smp a.v Y (.inr rfl) s hs⟩
  cases hva : varB a with
  | true =>
   have ea := Xu hva
   have bY := bY hva
   rw [if_pos hva] at hr
   cases hvb : varB b with
   | true =>
    have eb := Xu hvb
    have bX := bX hvb
    rw [if_pos hvb] at hr
    by_cases hvv : a.v = b.v
    ·have e1 : (a.v == b.v) = true := by simpa using hvv
     rw [if_pos hvv] at hr
     obtain rfl : (l, 0) = r := by simpa using hr
     rw [ansU_z]
     refine FI PM Tryz.func81 Tryz.ntmps81 [(18, 12, [7], [], (lin [7] [0, 1, 2, 3, 4, 5, 6, 7, 8, 9, 10, 11]))] rfl rfl ?_
     (have hWf := w10 @hx0 @hy0 @hea @heb @hlx @hly @ea @eb @e1 @lit0; repeat' (first | refine zS ?_ | refine zI ?_ ?_ | refine zK px ?_ | refine zK py ?_ | exact zF0 | refine zD fun hb => ?_ | exact zC | refine zT ?_ | fail))
    ·have e1 : (a.v == b.v) = false := by simpa using hvv
     rw [if_neg hvv] at hr
     by_cases hvl : a.v < b.v
     ·have e2 : decide (a.v > b.v) = false := decide_eq_false (by omega)
      rw [if_pos hvl] at hr
      obtain rfl : xv l b.v X = r := by simpa using hr
      by_cases hz : (xv l b.v X).2 = 0
      ·rw [Yh hz] at bX ⊢
       refine FI PM Tryz.func81 Tryz.ntmps81 [(18, 12, [7], [], (lin [7] [0, 1, 2, 3, 4, 5, 6, 7, 8, 9, 10, 11]))] rfl rfl ?_
       (have hWf := w10 @hx0 @hy0 @hea @heb @hlx @hly @ea @eb @e1 (ai @e2 <| @lit0); repeat' (first | refine zS ?_ | refine zI ?_ ?_ | refine zK px ?_ | refine zK py ?_ | refine zK bX ?_ | exact zF0 | refine zD fun hb => ?_ | exact zC | refine zT ?_ | fail))
      ·rw [wN hz] at bX ⊢
       refine FI PM Tryz.func81 Tryz.ntmps81 [(18, 12, [7], [], (lin [7] [0, 1, 2, 3, 4, 5, 6, 7, 8, 9, 10, 11]))] rfl rfl ?_
       (have hWf := w10 @hx0 @hy0 @hea @heb @hlx @hly @ea @eb @e1 (ai @e2 <| @lit0); repeat' (first | refine zS ?_ | refine zI ?_ ?_ | refine zK px ?_ | refine zK py ?_ | refine zK bX ?_ | exact zF0 | refine zD fun hb => ?_ | exact zC | refine zT ?_ | fail))
     ·have e2 : decide (a.v > b.v) = true := decide_eq_true (by omega)
      rw [if_neg hvl] at hr
      obtain rfl : xv l a.v Y = r := by simpa using hr
      by_cases hz : (xv l a.v Y).2 = 0
      ·rw [Yh hz] at bY ⊢
       refine FI PM Tryz.func81 Tryz.ntmps81 [(18, 12, [7], [], (lin [7] [0, 1, 2, 3, 4, 5, 6, 7, 8, 9, 10, 11]))] rfl rfl ?_
       (have hWf := w10 @hx0 @hy0 @hea @heb @hlx @hly @ea @eb @e1 (ai @e2 <| @lit0); repeat' (first | refine zS ?_ | refine zI ?_ ?_ | refine zK px ?_ | refine zK py ?_ | refine zK bY ?_ | exact zF0 | refine zD fun hb => ?_ | exact zC | refine zT ?_ | fail))
      ·rw [wN hz] at bY ⊢
       refine FI PM Tryz.func81 Tryz.ntmps81 [(18, 12, [7], [], (lin [7] [0, 1, 2, 3, 4, 5, 6, 7, 8, 9, 10, 11]))] rfl rfl ?_
       (have hWf := w10 @hx0 @hy0 @hea @heb @hlx @hly @ea @eb @e1 (ai @e2 <| @lit0); repeat' (first | refine zS ?_ | refine zI ?_ ?_ | refine zK px ?_ | refine zK py ?_ | refine zK bY ?_ | exact zF0 | refine zD fun hb => ?_ | exact zC | refine zT ?_ | fail))
   | false =>
    have eb := Xt hvb
    rw [if_neg (by simp [hvb])] at hr
    obtain rfl : xv l a.v Y = r := by simpa using hr
    by_cases hz : (xv l a.v Y).2 = 0
    ·rw [Yh hz] at bY ⊢
     refine FI PM Tryz.func81 Tryz.ntmps81 [(18, 12, [7], [], (lin [7] [0, 1, 2, 3, 4, 5, 6, 7, 8, 9, 10, 11]))] rfl rfl ?_
     (have hWf := w9 @hx0 @hy0 @hea @heb @hlx @hly @ea @eb @lit0; repeat' (first | refine zS ?_ | refine zI ?_ ?_ | refine zK px ?_ | refine zK py ?_ | refine zK bY ?_ | exact zF0 | refine zD fun hb => ?_ | exact zC | refine zT ?_ | fail))
    ·rw [wN hz] at bY ⊢
     refine FI PM Tryz.func81 Tryz.ntmps81 [(18, 12, [7], [], (lin [7] [0, 1, 2, 3, 4, 5, 6, 7, 8, 9, 10, 11]))] rfl rfl ?_
     (have hWf := w9 @hx0 @hy0 @hea @heb @hlx @hly @ea @eb @lit0; repeat' (first | refine zS ?_ | refine zI ?_ ?_ | refine zK px ?_ | refine zK py ?_ | refine zK bY ?_ | exact zF0 | refine zD fun hb => ?_ | exact zC | refine zT ?_ | fail))
  | false =>
   have ea := Xt hva
   rw [if_neg (by simp [hva])] at hr
   cases hvb : varB b with
   | true =>
    have eb := Xu hvb
    have bX := bX hvb
    rw [if_pos hvb] at hr
    obtain rfl : xv l b.v X = r := by simpa using hr
    by_cases hz : (xv l b.v X).2 = 0
    ·rw [Yh hz] at bX ⊢
     refine FI PM Tryz.func81 Tryz.ntmps81 [(18, 12, [7], [], (lin [7] [0, 1, 2, 3, 4, 5, 6, 7, 8, 9, 10, 11]))] rfl rfl ?_
     (have hWf := w9 @hx0 @hy0 @hea @heb @hlx @hly @ea @eb @lit0; repeat' (first | refine zS ?_ | refine zI ?_ ?_ | refine zK px ?_ | refine zK py ?_ | refine zK bX ?_ | exact zF0 | refine zD fun hb => ?_ | exact zC | refine zT ?_ | fail))
    ·rw [wN hz] at bX ⊢
     refine FI PM Tryz.func81 Tryz.ntmps81 [(18, 12, [7], [], (lin [7] [0, 1, 2, 3, 4, 5, 6, 7, 8, 9, 10, 11]))] rfl rfl ?_
     (have hWf := w9 @hx0 @hy0 @hea @heb @hlx @hly @ea @eb @lit0; repeat' (first | refine zS ?_ | refine zI ?_ ?_ | refine zK px ?_ | refine zK py ?_ | refine zK bX ?_ | exact zF0 | refine zD fun hb => ?_ | exact zC | refine zT ?_ | fail))
   | false =>
    have eb := Xt hvb
    rw [if_neg (by simp [hvb])] at hr
    by_cases hnn : a.name.toList = b.name.toList
    ·have e1 : (a.name.toList == b.name.toList) = true := by simpa using hnn
     by_cases har : a.ar = b.ar
     ·have e2 : (a.ar != b.ar) = false := by simpa using har
      rw [if_neg (by simp [hnn, har])] at hr
      replace hk := hk hva hvb hnn har
      have hm2 : a.ar.toNat <= 2 /\ 0 <= a.ar := by have := (wX.1 _ (List.getElem_mem hX)); rw [<- ha] at this; omega
      have hma : a.ar = (a.ar.toNat : Int) := by omega
      have pnX := @wg X wX
      have pnY := @wg Y wY
      have psX := @vr X wX
      have psY := @vr Y wY
      rw [<- ha] at pnX psX
      rw [<- hb0, <- har] at pnY psY
      generalize hm : a.ar.toNat = m at *
      refine FI PM Tryz.func81 Tryz.ntmps81 [(18, 12, [7], [], (lin [7] [0, 1, 2, 3, 4, 5, 6, 7, 8, 9, 10, 11]))] rfl rfl ?_
      (have hWf := w10 @hx0 @hy0 @hea @heb @hlx @hly @ea @eb @e1 (ai @e2 <| @lit0); repeat' (first | refine zS ?_ | refine zI ?_ ?_ | refine zK px ?_ | refine zK py ?_ | exact zF0 | refine zD fun hb => ?_ | exact zC | refine zT ?_ | fail))
      refine xd (fun q σ => ∃ (i : Nat) (li : List SubM), i <= m /\ q = m - i /\ y6 (uniM n) X Y (m - i) i li = some r /\ Yf (UOk n) (uniM n) X Y (m - i) i li /\ σ.t 2 = .sl 2 (li.map SubM.enc) /\ σ.t 8 = .bx 8 0 /\ σ.t 9 = .bx 9 0 /\ σ.t 10 = .bx 10 0 /\ σ.t 12 = .s (.int .i64 (pN X i)) /\ σ.t 13 = .s (.int .i64 (pN Y i)) /\ σ.t 14 = .s (.int .i64 i) /\
       σ.b 8 = some (.box [.sl 3 (X.map TyI.enc)]) /\ σ.b 9 = some (.box [.sl 3 (Y.map TyI.enc)]) /\ σ.b 10 = some (.box [.s (.int .i64 a.v), .s (.string a.name), .s (.int .i64 m)])) m ⟨0, l, by omega, by omega, hr, hk, ?_⟩ ?_
      ·simp only [go_sem, simprocAttr, Int.natCast_zero, Y9, hma, Int.natCast_one]
       all_goals trace_state
      ·rintro q σ ⟨i, li, hi, rfl, hr, hk, h2, h8, h9, h10, h12, h13, h14, b8, b9, b10⟩ K' hK
       by_cases hlt : i < m
       ·obtain ⟨j, hj⟩ : ∃ j, m - i = j + 1 := ⟨m - i - 1, by omega⟩
        rw [hj] at hr hk
        rw [y6] at hr
        obtain ⟨k1, k2⟩ := hk
        have sX := psX hlt
        have sY := psY hlt
        have cX := Zo X wX.1 lX (pN X i) (pN X (i + 1)) sX
        have cY := Zo Y wY.1 lY (pN Y i) (pN Y (i + 1)) sY
        rw [show seg X (pN X i) (pN X (i + 1)) = kid X i from rfl] at cX
        rw [show seg Y (pN Y i) (pN Y (i + 1)) = kid Y i from rfl] at cY
        have zX := ug X.length X wX.1 (by omega) (pN X i) (by omega)
        have zY := ug Y.length Y wY.1 (by omega) (pN Y i) (by omega)
        rw [sX] at zX
        rw [sY] at zY
        have dX := pnX (n := i) hi
        have dY := pnY (n := i) hi
        cases hf : uniM n li (kid X i) (kid Y i) with
        | none => rw [hf] at hr; cases hr
        | some r1 =>
         rw [hf] at hr
         obtain ⟨l1, c1⟩ := r1
         have hcall := ih li (kid X i) (kid Y i) (l1, c1) k1 hf
         by_cases hc : c1 = 0
         ·subst hc
          rw [ansU_z] at hcall
          simp only [if_true] at hr
          (have hWf := w10 @h2 @h8 @h9 @h10 @h12 @h13 @h14 @b8 @b9 @b10; repeat' (first | refine zS ?_ | refine zI ?_ ?_ | refine zK cX ?_ | refine zK cY ?_ | refine zK zX ?_ | refine zK zY ?_ | refine Go.Proofs.YtmnokalddmlogaaGreat.zX (FCon.noout hcall) ?_ | ((with_reducible apply xc); refine zG (hcall) ?_) | exact zF0 | refine zD fun hb => ?_ | exact zC | refine zT ?_ | fail))
          refine hK (m - (i + 1)) _ (by omega) ⟨i + 1, l1, by omega, rfl, by rw [show m - (i + 1) = j by omega]; exact hr, by rw [show m - (i + 1) = j by omega]; exact k2 l1 hf, ?_⟩
          simp only [go_sem, simprocAttr, h2, h8, h9, h10, h12, h13, h14, b8, b9, b10, Int.natCast_succ]
         ·have e3 : (c1 != 0) = true := by simp [hc]
          rw [wN (by exact hc)] at hcall
          simp only [hc, if_false] at hr
          obtain rfl : (l1, c1) = r := by simpa using hr
          rw [wN (by exact hc)]
          (have hWf := w10 @h2 @h8 @h9 @h10 @h12 @h13 @h14 @b8 @b9 (ai @b10 <| @e3); repeat' (first | refine zS ?_ | refine zI ?_ ?_ | refine zK cX ?_ | refine zK cY ?_ | refine Go.Proofs.YtmnokalddmlogaaGreat.zX (FCon.noout hcall) ?_ | ((with_reducible apply xc); refine zG (hcall) ?_) | exact zF0 | refine zD fun hb => ?_ | exact zC | refine zT ?_ | fail))
       ·obtain rfl : i = m := by omega
        rw [Nat.sub_self, y6] at hr
        obtain rfl : (li, 0) = r := by simpa using hr
        rw [ansU_z]
        (have hWf := w10 @h2 @h8 @h9 @h10 @h12 @h13 @h14 @b8 @b9 @b10; repeat' (first | refine zS ?_ | refine zI ?_ ?_ | exact zF0 | refine zD fun hb => ?_ | exact zC | refine zT ?_ | fail))
     ·have e2 : (a.ar != b.ar) = true := by simpa using har
      rw [if_pos (.inr har)] at hr
      obtain rfl : (l, 2) = r := by simpa using hr
      rw [wN (by simp)]
      refine FI PM Tryz.func81 Tryz.ntmps81 [(18, 12, [7], [], (lin [7] [0, 1, 2, 3, 4, 5, 6, 7, 8, 9, 10, 11]))] rfl rfl ?_
      (have hWf := w10 @hx0 @hy0 @hea @heb @hlx @hly @ea @eb @e1 (ai @e2 <| @lit0); repeat' (first | refine zS ?_ | refine zI ?_ ?_ | refine zK px ?_ | refine zK py ?_ | exact zF0 | refine zD fun hb => ?_ | exact zC | refine zT ?_ | fail))
    ·have e1 : (a.name.toList == b.name.toList) = false := by simpa using hnn
     rw [if_pos (.inl hnn)] at hr
     obtain rfl : (l, 2) = r := by simpa using hr
     rw [wN (by simp)]
     refine FI PM Tryz.func81 Tryz.ntmps81 [(18, 12, [7], [], (lin [7] [0, 1, 2, 3, 4, 5, 6, 7, 8, 9, 10, 11]))] rfl rfl ?_
     (have hWf := w10 @hx0 @hy0 @hea @heb @hlx @hly @ea @eb @e1 @lit0; repeat' (first | refine zS ?_ | refine zI ?_ ?_ | refine zK px ?_ | refine zK py ?_ | exact zF0 | refine zD fun hb => ?_ | exact zC | refine zT ?_ | fail))
theorem QB : ∀ (A B : List Nat) (m n : Nat), scan A m = some A.length -> scan (A ++ B) (m + n) = (scan B n).map (· + A.length)
 | [], B, 0, n, _ => by simp
 | [], B, m + 1, n, h => by cases h
 | a :: A, B, 0, n, h => by rw [zj] at h; simp at h
 | a :: A, B, m + 1, n, h => by
  rw [scan] at h
  cases e : scan A (m + a) with
  | none => rw [e] at h; cases h
  | some j =>
   rw [e] at h
   have hj : j = A.length := by simpa using h
   subst hj
   rw [List.cons_append, show m + 1 + n = (m + n) + 1 by omega, scan, show m + n + a = (m + a) + n by omega, QB A B (m + a) n e, Option.map_map]
   cases scan B n with
   | none => rfl
   | some k => simp [Function.comp_def]; omega
theorem Vf : ∀ (L : List Nat) (m k : Nat), scan L m = some k -> scan (L.take k) m = some k
 | L, 0, k, h => by rw [zj] at h; injection h with h; subst h; rw [zj]
 | [], m + 1, k, h => by cases h
 | a :: L, m + 1, k, h => by
  rw [scan] at h
  cases e : scan L (m + a) with
  | none => rw [e] at h; cases h
  | some j =>
   rw [e] at h
   have hj : j + 1 = k := by simpa using h
   subst hj
   rw [List.take_succ_cons, scan, Vf L _ j e]; rfl
theorem arsM_app (a b : List TyI) : arsM (a ++ b) = arsM a ++ arsM b := List.map_append
theorem VG (a : List TyI) : (arsM a).length = a.length := List.length_map _
def rowT (m : Nat) (xs : List TyI) : Prop := scan (arsM xs) m = some xs.length
theorem Qz (xs : List TyI) : rowT 1 xs ↔ endM xs 0 = xs.length := by
 unfold rowT endM
 rw [List.drop_zero]
 cases scan (arsM xs) 1 with
 | none => simp
 | some j => simp <;> omega
theorem Z4 {m n : Nat} {a b : List TyI} (h1 : rowT m a) (h2 : rowT n b) : rowT (m + n) (a ++ b) := by
 unfold rowT at *
 rw [arsM_app, QB _ _ _ _ (by rw [h1, VG]), h2, VG, List.length_append]
 simp; omega
structure wfV (xs : List TyI) : Prop where
 row : rowT 1 xs
 ar : ∀ x ∈ xs, 0 <= x.ar /\ x.ar <= 2
 var : ∀ x ∈ xs, varB x = true -> x.ar = 0
theorem wfV.wfT {xs : List TyI} (h : wfV xs) : wfT xs := ⟨h.ar, (Qz xs).1 h.row⟩
theorem wfV.pos {xs : List TyI} (h : wfV xs) : 0 < xs.length := yR h.wfT
theorem uo (l : List SubM) (a b : List TyI) : putX l (a ++ b) = putX l a ++ putX l b := List.flatMap_append
theorem x3 (l : List SubM) (x : TyI) (b : List TyI) : putX l (x :: b) = putI l x ++ putX l b := List.flatMap_cons
theorem vD (l : List SubM) : putX l [] = [] := rfl
def lk (l : List SubM) (v : Int) : Option (List TyI) := (l.find? fun s => s.v == v).map SubM.ty
theorem yI (l : List SubM) (x : TyI) : putI l x = if varB x = true then (lk l x.v).getD [x] else [x] := by
 unfold putI lk
 split
 ·cases l.find? (fun s => s.v == x.v) <;> rfl
 ·rfl
theorem YF {l : List SubM} {v : Int} {t : List TyI} (h : lk l v = some t) : ∃ s ∈ l, s.v = v /\ s.ty = t := by
 unfold lk at h
 obtain ⟨s, h1, h2⟩ := Option.map_eq_some_iff.1 h
 exact ⟨s, List.mem_of_find?_eq_some h1, by have := List.find?_some h1; simpa using this, h2⟩
theorem wG {l : List SubM} {v : Int} : lk l v = none ↔ ∀ s ∈ l, s.v ≠ v := by
 unfold lk
 rw [Option.map_eq_none_iff, List.find?_eq_none]
 constructor
 ·intro h s hs; have := h s hs; simpa using this
 ·intro h s hs; have := h s hs; simpa using this
theorem lk_of {l : List SubM} (hd : l.Pairwise (fun a b => a.v ≠ b.v)) {s : SubM} (hs : s ∈ l) : lk l s.v = some s.ty := by
 induction l with
 | nil => cases hs
 | cons a l ih =>
  unfold lk
  rw [List.find?_cons]
  rcases List.mem_cons.1 hs with rfl | hs
  ·simp
  ·have := (List.pairwise_cons.1 hd).1 s hs
   have e : (a.v == s.v) = false := by simpa using this
   rw [e]
   exact ih (List.pairwise_cons.1 hd).2 hs
theorem W9 {l : List SubM} (hw : ∀ s ∈ l, rowT 1 s.ty) : ∀ (xs : List TyI) (m : Nat), (∀ x ∈ xs, varB x = true -> x.ar = 0) -> rowT m xs -> rowT m (putX l xs)
 | [], m, _, h => h
 | x :: xs, 0, _, h => by unfold rowT at h; rw [zj] at h; simp at h
 | x :: xs, m + 1, hv, h => by
  have h' : rowT (m + x.ar.toNat) xs := by
   unfold rowT at h ⊢
   rw [show arsM (x :: xs) = x.ar.toNat :: arsM xs from rfl, scan] at h
   cases e : scan (arsM xs) (m + x.ar.toNat) with
   | none => rw [e] at h; cases h
   | some j =>
         rw [e] at h; have : j = xs.length := by simpa using h
         rw [this]
  have ih := W9 hw xs _ (fun y hy => hv y (List.mem_cons_of_mem _ hy)) h'
  rw [x3, yI]
  have one : rowT (m + 1) ([x] ++ putX l xs) := by
   unfold rowT at ih ⊢
   rw [show arsM ([x] ++ putX l xs) = x.ar.toNat :: arsM (putX l xs) from rfl, scan, ih]; simp
  split
  ·rename_i hb
   cases hk : lk l x.v with
   | none => exact one
   | some t =>
    obtain ⟨s, hs, -, rfl⟩ := YF hk
    have hz := hv x (by simp) hb
    rw [hz] at ih
    have := Z4 (hw s hs) ih
    rw [show 1 + (m + Int.toNat 0) = m + 1 by simp; omega] at this
    exact this
  ·exact one
theorem z9 {l : List SubM} {xs : List TyI} {y : TyI} (h : y ∈ putX l xs) : (y ∈ xs /\ (varB y = true -> lk l y.v = none)) \/ ∃ s ∈ l, y ∈ s.ty /\ ∃ x ∈ xs, varB x = true /\ x.v = s.v := by
 obtain ⟨x, hx, hy⟩ := List.mem_flatMap.1 h
 rw [yI] at hy
 split at hy
 ·rename_i hb
  cases hk : lk l x.v with
  | none =>
       rw [hk] at hy; have : y = x := by simpa using hy
       subst this; exact .inl ⟨hx, fun _ => hk⟩
  | some t =>
   rw [hk] at hy
   obtain ⟨s, hs, h1, rfl⟩ := YF hk
   exact .inr ⟨s, hs, hy, x, hx, hb, h1.symm⟩
 ·rename_i hb
  have : y = x := by simpa using hy
  subst this
  exact .inl ⟨hx, fun q => absurd q hb⟩
def clear (l : List SubM) (xs : List TyI) : Prop := ∀ x ∈ xs, varB x = true -> lk l x.v = none
theorem vj {l : List SubM} {xs : List TyI} (h : clear l xs) : putX l xs = xs := by
 induction xs with
 | nil => rfl
 | cons x xs ih =>
  rw [x3, ih fun y hy => h y (List.mem_cons_of_mem _ hy), yI]
  split
  ·rename_i hb; rw [h x (by simp) hb]; rfl
  ·rfl
structure GoodL (Q : TyI -> Prop) (l : List SubM) : Prop where
 rise : l.Pairwise (fun a b => a.v < b.v)
 wf : ∀ s ∈ l, wfV s.ty
 out : ∀ s ∈ l, clear l s.ty
 len : ∀ s ∈ l, s.ty.length <= 200
 q : ∀ s ∈ l, ∀ x ∈ s.ty, Q x
 vq : ∀ s ∈ l, ∃ x, Q x /\ varB x = true /\ x.v = s.v
theorem GoodL.nil (Q : TyI -> Prop) : GoodL Q [] := ⟨.nil, nofun, nofun, nofun, nofun, nofun⟩
section
variable {Q : TyI -> Prop} {l : List SubM}
theorem GoodL.dif (h : GoodL Q l) : l.Pairwise (fun a b => a.v ≠ b.v) := h.rise.imp fun h => by omega
theorem GoodL.clr (h : GoodL Q l) (xs : List TyI) : clear l (putX l xs) := fun y hy hb => by
 rcases z9 hy with ⟨-, q⟩ | ⟨s, hs, hy, -⟩
 ·exact q hb
 ·exact h.out s hs y hy hb
theorem GoodL.idem (h : GoodL Q l) (xs : List TyI) : putX l (putX l xs) = putX l xs := vj (h.clr xs)
theorem GoodL.put {xs : List TyI} (h : GoodL Q l) (hx : wfV xs) : wfV (putX l xs) := ⟨W9 (fun s hs => (h.wf s hs).row) xs 1 hx.var hx.row, fun y hy => by
 rcases z9 hy with ⟨q, -⟩ | ⟨s, hs, hy, -⟩
 ·exact hx.ar y q
 ·exact (h.wf s hs).ar y hy, fun y hy => by
 rcases z9 hy with ⟨q, -⟩ | ⟨s, hs, hy, -⟩
 ·exact hx.var y q
 ·exact (h.wf s hs).var y hy⟩
theorem GoodL.putQ {xs : List TyI} (h : GoodL Q l) (hx : ∀ x ∈ xs, Q x) : ∀ x ∈ putX l xs, Q x := fun y hy => by
 rcases z9 hy with ⟨q, -⟩ | ⟨s, hs, hy, -⟩
 ·exact hx y q
 ·exact h.q s hs y hy
end
theorem zn {l : List SubM} {B : Nat} (hB : 1 <= B) (h : ∀ s ∈ l, s.ty.length <= B) : ∀ xs : List TyI, (putX l xs).length <= xs.length * B
 | [] => Nat.zero_le _
 | x :: xs => by
  have := zn hB h xs
  rw [x3, List.length_append, List.length_cons, Nat.add_mul, yI]
  have h1 : (if varB x = true then (lk l x.v).getD [x] else [x]).length <= B := by
   split
   ·cases hk : lk l x.v with
    | none => simpa using hB
    | some t => obtain ⟨s, hs, -, rfl⟩ := YF hk; exact h s hs
   ·simpa using hB
  omega
theorem uB {l : List SubM} (h : ∀ s ∈ l, 0 < s.ty.length) : ∀ xs : List TyI, xs.length <= (putX l xs).length
 | [] => Nat.zero_le _
 | x :: xs => by
  have := uB h xs
  rw [x3, List.length_append, List.length_cons, yI]
  have h1 : 1 <= (if varB x = true then (lk l x.v).getD [x] else [x]).length := by
   split
   ·cases hk : lk l x.v with
    | none => simp
    | some t => obtain ⟨s, hs, -, rfl⟩ := YF hk; exact h s hs
   ·simp
  omega
theorem z3 {l : List SubM} {i : Nat} {x y : SubM} : y ∈ insL l i x ↔ y = x \/ y ∈ l := by
 unfold insL
 constructor
 ·intro h
  rcases List.mem_append.1 h with h | h
  ·exact .inr (List.mem_of_mem_take h)
  ·rcases List.mem_cons.1 h with h | h
   ·exact .inl h
   ·exact .inr (List.mem_of_mem_drop h)
 ·rintro (rfl | h)
  ·simp
  ·rw [<- List.take_append_drop i l] at h
   rcases List.mem_append.1 h with h | h
   ·exact List.mem_append_left _ h
   ·exact List.mem_append_right _ (List.mem_cons_of_mem _ h)
theorem wH {l : List SubM} {v : Int} {u : List TyI} {s : SubM} : s ∈ xw l v u ↔ ∃ s0 ∈ l, s = ⟨s0.v, putX [⟨v, u⟩] s0.ty⟩ := by
 unfold xw
 rw [List.mem_map]
 exact ⟨fun ⟨a, h, e⟩ => ⟨a, h, e.symm⟩, fun ⟨a, h, e⟩ => ⟨a, h, e.symm⟩⟩
theorem YG (v w : Int) (u : List TyI) : lk [⟨v, u⟩] w = if v = w then some u else none := by
 unfold lk
 rw [List.find?_cons]
 by_cases h : v = w
 ·have e : (v == w) = true := by simpa using h
  rw [if_pos h, e]; rfl
 ·have e : (v == w) = false := by simpa using h
  rw [if_neg h, e]; rfl
theorem Uq {l : List SubM} {v : Int} {u : List TyI} (hr : l.Pairwise (fun a b => a.v < b.v)) (hv : ∀ s ∈ l, s.v ≠ v) : (xp l v u).Pairwise (fun a b => a.v < b.v) := by
 have hn : (xw l v u).Pairwise (fun a b => a.v < b.v) := by
  unfold xw
  rw [List.pairwise_map]
  exact hr
 have hle := YW l v
 have hlen := yF l v u
 have hlo : ∀ s ∈ (xw l v u).take (cntU l v), s.v < v := by
  intro s hs
  obtain ⟨j, hj, rfl⟩ := List.getElem_of_mem hs
  rw [List.length_take] at hj
  rw [List.getElem_take, W5]
  exact WR (by omega) (by omega)
 have hhi : ∀ s ∈ (xw l v u).drop (cntU l v), v < s.v := by
  intro s hs
  obtain ⟨j, hj, rfl⟩ := List.getElem_of_mem hs
  rw [List.length_drop] at hj
  rw [List.getElem_drop, W5]
  have h0 : cntU l v < l.length := by omega
  have h1 := WQ h0
  have h2 := hv _ (List.getElem_mem h0)
  rcases Nat.eq_zero_or_pos j with rfl | hj0
  ·simp only [Nat.add_zero]; omega
  ·have := List.pairwise_iff_getElem.1 hr (cntU l v) (cntU l v + j) h0 (by omega) (by omega)
   omega
 unfold xp insL
 rw [List.pairwise_append]
 refine ⟨hn.sublist (List.take_sublist _ _), List.pairwise_cons.2 ⟨hhi, hn.sublist (List.drop_sublist _ _)⟩, fun a ha b hb => ?_⟩
 rcases List.mem_cons.1 hb with rfl | hb
 ·exact hlo a ha
 ·have := hlo a ha; have := hhi b hb; omega
section
variable {Q : TyI -> Prop} {l : List SubM} {v : Int} {u : List TyI}
theorem Y7 (hr : l.Pairwise (fun a b => a.v < b.v)) (hv : ∀ s ∈ l, s.v ≠ v) (w : Int) : lk (xp l v u) w = if w = v then some u else (lk l w).map (putX [⟨v, u⟩]) := by
 have hd : (xp l v u).Pairwise (fun a b => a.v ≠ b.v) := (Uq (u := u) hr hv).imp fun h => by omega
 by_cases h : w = v
 ·subst h
  rw [if_pos rfl]
  exact lk_of hd (s := ⟨w, u⟩) (z3.2 (.inl rfl))
 ·rw [if_neg h]
  cases hk : lk l w with
  | none =>
   rw [Option.map_none, wG]
   intro s hs
   rcases z3.1 hs with rfl | hs
   ·exact Ne.symm h
   ·obtain ⟨s0, h0, rfl⟩ := wH.1 hs
    exact wG.1 hk s0 h0
  | some t =>
   obtain ⟨s, hs, rfl, rfl⟩ := YF hk
   exact lk_of hd (s := ⟨s.v, putX [⟨v, u⟩] s.ty⟩) (z3.2 (.inr (wH.2 ⟨s, hs, rfl⟩)))
theorem vE (hr : l.Pairwise (fun a b => a.v < b.v)) (hv : ∀ s ∈ l, s.v ≠ v) : ∀ xs : List TyI, putX (xp l v u) xs = putX [⟨v, u⟩] (putX l xs)
 | [] => rfl
 | x :: xs => by
  rw [x3, x3, uo, vE hr hv xs]
  congr 1
  rw [yI, yI]
  split
  ·rename_i hb
   rw [Y7 hr hv]
   by_cases h : x.v = v
   ·subst h
    have : lk l x.v = none := wG.2 hv
    rw [if_pos rfl, this]
    show u = putX _ [x]
    rw [x3, vD, yI, if_pos hb, YG, if_pos rfl]; simp
   ·rw [if_neg h]
    cases hk : lk l x.v with
    | none =>
     show [x] = putX _ [x]
     rw [x3, vD, yI, if_pos hb, YG, if_neg (Ne.symm h)]; rfl
    | some t => rfl
  ·rename_i hb
   show [x] = putX _ [x]
   rw [x3, vD, yI, if_neg hb]; rfl
theorem Uz (hv : v ∉ xm u) : clear [⟨v, u⟩] u := fun x hx hb => by
 rw [YG, if_neg]
 rintro rfl
 exact hv ((varsM_mem' _ _).2 ⟨x, hx, hb, rfl⟩)
theorem bind_good (h : GoodL Q l) (hv : ∀ s ∈ l, s.v ≠ v) (hu : wfV u) (huq : ∀ x ∈ u, Q x) (huc : clear l u) (hvq : ∃ x, Q x /\ varB x = true /\ x.v = v) (hvu : v ∉ xm u) (hb : (decide (200 < u.length) || bigU (xw l v u)) = false) : GoodL Q (xp l v u) := by
 have hr := Uq (u := u) h.rise hv
 have hone : GoodL Q [⟨v, u⟩] := ⟨List.pairwise_singleton _ _, fun s hs => by simp at hs; subst hs; exact hu, fun s hs => by simp at hs; subst hs; exact Uz hvu, fun s hs => by
  simp at hs; subst hs
  simp only [Bool.or_eq_false_iff, decide_eq_false_iff_not] at hb
  show u.length <= 200
  omega, fun s hs => by simp at hs; subst hs; exact huq, fun s hs => by simp at hs; subst hs; exact hvq⟩
 refine ⟨hr, fun s hs => ?_, fun s hs x hx hbx => ?_, fun s hs => ?_, fun s hs => ?_, fun s hs => ?_⟩
 ·rcases z3.1 hs with rfl | hs
  ·exact hu
  ·obtain ⟨s0, h0, rfl⟩ := wH.1 hs
   exact hone.put (h.wf s0 h0)
 ·rw [Y7 h.rise hv]
  have key : x.v ≠ v /\ lk l x.v = none := by
   rcases z3.1 hs with rfl | hs
   ·exact ⟨fun e => hvu ((varsM_mem' _ _).2 ⟨x, hx, hbx, e⟩), huc x hx hbx⟩
   ·obtain ⟨s0, h0, rfl⟩ := wH.1 hs
    rcases z9 hx with ⟨q1, q2⟩ | ⟨s1, hs1, q1, -⟩
    ·have := q2 hbx
     rw [YG] at this
     exact ⟨fun e => (by rw [if_pos e.symm] at this; cases this), h.out s0 h0 x q1 hbx⟩
    ·simp at hs1; subst hs1
     exact ⟨fun e => hvu ((varsM_mem' _ _).2 ⟨x, q1, hbx, e⟩), huc x q1 hbx⟩
  rw [if_neg key.1, key.2]; rfl
 ·simp only [Bool.or_eq_false_iff, decide_eq_false_iff_not] at hb
  rcases z3.1 hs with rfl | hs
  ·have := hb.1; simp only; omega
  ·have := List.any_eq_false.1 hb.2 s hs
   simpa using this
 ·rcases z3.1 hs with rfl | hs
  ·exact huq
  ·obtain ⟨s0, h0, rfl⟩ := wH.1 hs
   exact hone.putQ (h.q s0 h0)
 ·rcases z3.1 hs with rfl | hs
  ·exact hvq
  ·obtain ⟨s0, h0, rfl⟩ := wH.1 hs
   exact h.vq s0 h0
end
theorem seg_sub {xs : List TyI} {p e : Nat} : ∃ A B, xs = A ++ (seg xs p e ++ B) := ⟨xs.take p, (xs.drop p).drop (e - p), by unfold seg; rw [List.take_append_drop, List.take_append_drop]⟩
theorem YM {xs : List TyI} {p e : Nat} {x : TyI} (h : x ∈ seg xs p e) : x ∈ xs := List.mem_of_mem_drop (List.mem_of_mem_take h)
theorem kid_wf {xs : List TyI} (h : wfV xs) {n : Nat} (hn : n < (xs[0]'h.pos).ar.toNat) : wfV (kid xs n) := by
 refine ⟨?_, fun x hx => h.ar x (YM hx), fun x hx => h.var x (YM hx)⟩
 have hs := vr h.wfT hn
 have h1 := (wg h.wfT (n := n + 1) (by omega)).2
 have hbd := vm xs _ _ hs
 unfold endM at hs
 cases e : scan ((arsM xs).drop (pN xs n)) 1 with
 | none => rw [e] at hs; simp only at hs; omega
 | some j =>
  rw [e] at hs
  simp only at hs
  have hj : j = pN xs (n + 1) - pN xs n := by omega
  have := Vf _ _ _ e
  unfold rowT kid
  have el : (seg xs (pN xs n) (pN xs (n + 1))).length = j := by rw [Ug h1.2, hj]
  rw [el]
  rw [hj] at this ⊢
  have ea : arsM (seg xs (pN xs n) (pN xs (n + 1))) = ((arsM xs).drop (pN xs n)).take (pN xs (n + 1) - pN xs n) := by unfold seg arsM; rw [List.map_take, List.map_drop]
  rw [ea]; exact this
theorem kid_len {xs : List TyI} (h : wfV xs) {n : Nat} (hn : n < (xs[0]'h.pos).ar.toNat) : (kid xs n).length < xs.length := by
 have h1 := (wg h.wfT (n := n + 1) (by omega)).2
 have h2 := (wg h.wfT (n := n) (by omega)).2
 unfold kid
 rw [Ug h1.2]; have := h.pos; omega
theorem Qw {xs ys : List TyI} (hx : wfV xs) (hy : wfV ys) (l : List SubM) {m : Nat} (mx : (xs[0]'hx.pos).ar.toNat = m) (my : (ys[0]'hy.pos).ar.toNat = m) : ∀ n, n <= m -> (∀ i, i < n -> putX l (kid xs i) = putX l (kid ys i)) -> putX l (seg xs 1 (pN xs n)) = putX l (seg ys 1 (pN ys n))
 | 0, _, _ => by rw [Y9, Y9, seg_nil, seg_nil]
 | n + 1, hn, h => by
  have a1 := wg hx.wfT (n := n) (by omega)
  have a2 := wg hx.wfT (n := n + 1) (by omega)
  have b1 := wg hy.wfT (n := n) (by omega)
  have b2 := wg hy.wfT (n := n + 1) (by omega)
  have c1 := (vm xs _ _ (vr hx.wfT (n := n) (by omega))).1
  have c2 := (vm ys _ _ (vr hy.wfT (n := n) (by omega))).1
  rw [seg_app a1.2.1 (Nat.le_of_lt c1) a2.2.2, seg_app b1.2.1 (Nat.le_of_lt c2) b2.2.2, uo, uo, Qw hx hy l mx my n (by omega) fun i hi => h i (by omega)]
  congr 1
  exact h n (by omega)
theorem put_same {xs ys : List TyI} (hx : wfV xs) (hy : wfV ys) (l : List SubM) (h0 : xs[0]'hx.pos = ys[0]'hy.pos) (h : ∀ i, i < (xs[0]'hx.pos).ar.toNat -> putX l (kid xs i) = putX l (kid ys i)) : putX l xs = putX l ys := by
 have hk := Qw hx hy l rfl (by rw [<- h0]) _ (Nat.le_refl _) h
 have e1 : pN xs (xs[0]'hx.pos).ar.toNat = xs.length := by have := Ul hx.wfT; unfold pN; rw [this]; rfl
 have e2 : pN ys (xs[0]'hx.pos).ar.toNat = ys.length := by have := Ul hy.wfT; unfold pN; rw [h0, this]; rfl
 rw [e1, e2] at hk
 have s1 : ∀ zs : List TyI, (hz : 0 < zs.length) -> zs = zs[0] :: seg zs 1 zs.length := fun zs hz => by
  have : seg zs 0 zs.length = zs := by unfold seg; simp
  rw [<- seg_cons hz hz, this]
 rw [s1 xs hx.pos, s1 ys hy.pos, x3, x3, h0]
 congr 1
theorem Uj {xs : List TyI} (h : wfV xs) (hv : varB (xs[0]'h.pos) = true) : xs = [xs[0]'h.pos] := by
 have hp := h.pos
 have ha := h.var _ (List.getElem_mem hp) hv
 have hr := h.row
 match xs, hp with
 | x :: r, hp =>
  simp only [List.getElem_cons_zero] at ha ⊢
  unfold rowT at hr
  rw [show arsM (x :: r) = x.ar.toNat :: arsM r from rfl, scan, ha] at hr
  simp only [Int.toNat_zero, Nat.zero_add, Nat.add_zero] at hr
  rw [zj] at hr
  have : r.length = 0 := by simpa using hr.symm
  rw [List.length_eq_zero_iff.1 this]
theorem put_one {xs : List TyI} (h : wfV xs) (hv : varB (xs[0]'h.pos) = true) (u : List TyI) : putX [⟨(xs[0]'h.pos).v, u⟩] xs = u := by
 have h1 := Uj h hv
 generalize (xs[0]'h.pos) = a at h1 hv ⊢
 subst h1
 rw [x3, vD, yI, if_pos hv, YG, if_pos rfl]; simp
theorem one_eq {xs ys : List TyI} (h : wfV xs) (h' : wfV ys) (hv : varB (xs[0]'h.pos) = true) (hv' : varB (ys[0]'h'.pos) = true) (e : xs[0]'h.pos = ys[0]'h'.pos) : xs = ys := (Uj h hv).trans ((congrArg (fun z => [z]) e).trans (Uj h' hv').symm)
def unb (V : List Int) (l : List SubM) : Nat := (V.filter fun v => (lk l v).isNone).length
theorem UI {p q : Int -> Bool} {v : Int} (hpq : ∀ w, q w = true -> p w = true) (hp : p v = true) (hq : q v = false) : ∀ V : List Int, (V.filter q).length <= (V.filter p).length /\ (v ∈ V -> (V.filter q).length < (V.filter p).length)
 | [] => ⟨Nat.le_refl _, nofun⟩
 | w :: V => by
  obtain ⟨i1, i2⟩ := UI hpq hp hq V
  rw [List.filter_cons, List.filter_cons]
  cases e1 : q w with
  | true =>
   rw [if_pos rfl, if_pos (hpq w e1), List.length_cons, List.length_cons]
   refine ⟨by omega, fun h => ?_⟩
   rcases List.mem_cons.1 h with rfl | h
   ·rw [hq] at e1; cases e1
   ·have := i2 h; omega
  | false =>
   rw [if_neg (by simp)]
   cases e2 : p w with
   | true =>
    rw [if_pos rfl, List.length_cons]
    exact ⟨by omega, fun h => by omega⟩
   | false =>
    rw [if_neg (by simp)]
    refine ⟨i1, fun h => ?_⟩
    rcases List.mem_cons.1 h with rfl | h
    ·rw [hp] at e2; cases e2
    ·exact i2 h
theorem unb_bind {V : List Int} {l : List SubM} {v : Int} {u : List TyI} (hr : l.Pairwise (fun a b => a.v < b.v)) (hv : ∀ s ∈ l, s.v ≠ v) (hV : v ∈ V) : unb V (xp l v u) < unb V l := by
 refine (UI (v := v) (fun w hw => ?_) ?_ ?_ V).2 hV
 ·rw [Y7 hr hv] at hw
  split at hw
  ·cases hw
  ·simpa using hw
 ·rw [wG.2 hv]; rfl
 ·rw [Y7 hr hv, if_pos rfl]; rfl
def Ext (l l' : List SubM) : Prop := ∀ t, putX l' (putX l t) = putX l' t
theorem Ext.trans {a b c : List SubM} (h : Ext a b) (h' : Ext b c) : Ext a c := fun t => by rw [<- h' (putX a t), h t, h' t]
def Bd (Q : TyI -> Prop) (l : List SubM) (x : List TyI) : Prop := ∀ l', Ext l l' -> GoodL Q l' -> (putX l' x).length <= 40000
structure YS (Q : TyI -> Prop) (V : List Int) (l : List SubM) (x y : List TyI) (l' : List SubM) : Prop where
 good : GoodL Q l'
 ext : Ext l l'
 same : putX l' x = putX l' y
 less : l' = l \/ unb V l' < unb V l
 room : l'.length + unb V l' <= l.length + unb V l
theorem Up {Q : TyI -> Prop} {V : List Int} {l : List SubM} {v : Int} {u x y : List TyI} (h : GoodL Q l) (hv : ∀ s ∈ l, s.v ≠ v) (hV : v ∈ V) (hu : wfV u) (huq : ∀ x ∈ u, Q x) (huc : clear l u) (hvq : ∃ x, Q x /\ varB x = true /\ x.v = v) (hz : (xv l v u).2 = 0) (hx : putX [⟨v, u⟩] (putX l x) = u) (hy : putX [⟨v, u⟩] (putX l y) = u \/ putX l y = u) : YS Q V l x y (xv l v u).1 := by
 unfold xv at hz ⊢
 split
 ·rename_i q; rw [if_pos q] at hz; cases hz
 ·rename_i q
  rw [if_neg q] at hz
  have hb : (decide (200 < u.length) || bigU (xw l v u)) = false := by
   cases e : (decide (200 < u.length) || bigU (xw l v u)) with
   | false => rfl
   | true => rw [e] at hz; simp at hz
  have hg := bind_good h hv hu huq huc hvq q hb
  have hun := unb_bind (u := u) h.rise hv hV
  refine ⟨hg, fun t => ?_, ?_, .inr hun, ?_⟩
  ·rw [vE h.rise hv, h.idem, vE h.rise hv]
  ·rw [vE h.rise hv, vE h.rise hv, hx]
   rcases hy with hy | hy
   ·exact hy.symm
   ·rw [hy]; exact (vj (Uz q)).symm
  ·show (xp l v u).length + unb V (xp l v u) <= _
   have hle := YW l v
   have : (xp l v u).length = l.length + 1 := by
    unfold xp insL
    have := yF l v u
    simp only [List.length_append, List.length_cons, List.length_take, List.length_drop, Nat.min_def]; split <;> omega
   omega
theorem head_eq {a b : TyI} (hn : a.name.toList = b.name.toList) (hv : a.v = b.v) (ha : a.ar = b.ar) : a = b := item_eq hv (by rw [ByteArray.toList_eq, ByteArray.toList_eq] at hn; exact congrArg Array.toList (by simpa using hn)) ha
theorem QI {Q : TyI -> Prop} {V : List Int} (hQ1 : ∀ x, Q x -> varB x = true -> x.v ∈ V) (hQ0 : ∀ x, Q x -> varB x = false -> x.v = 0) {B : Nat} (hB : B <= 3000000) :
  ∀ (n : Nat) (l : List SubM) (x y : List TyI), GoodL Q l -> wfV x -> wfV y -> (∀ i ∈ x, Q i) -> (∀ i ∈ y, Q i) -> Bd Q l x -> Bd Q l y -> l.length + unb V l <= B -> unb V l * 40001 + (putX l x).length < n ->
   UOk n l x y /\ ∃ r, uniM n l x y = some r /\ (r.2 = 0 -> YS Q V l x y r.1)
 | 0, _, _, _, _, _, _, _, _, _, _, _, h => absurd h (Nat.not_lt_zero _)
 | n + 1, l, x, y, hg, wx, wy, qx, qy, bx, by_, hroom, hn => by
  have hrefl : Ext l l := fun t => hg.idem t
  have lX := bx l hrefl hg
  have lY := by_ l hrefl hg
  have WX := hg.put wx
  have WY := hg.put wy
  have cX := hg.clr x
  have cY := hg.clr y
  have QX := hg.putQ qx
  have QY := hg.putQ qy
  have pos : ∀ s ∈ l, 0 < s.ty.length := fun s hs => (hg.wf s hs).pos
  have hst : UStep l x y := ⟨by have := uB pos x; omega, by have := uB pos y; omega, by omega, by omega, by omega, WX.wfT, WY.wfT, hg.rise, fun v hv => by
    rw [<- wG]
    rcases hv with hv | hv
    ·obtain ⟨i, hi, hb, rfl⟩ := (varsM_mem' _ _).1 hv; exact cX i hi hb
    ·obtain ⟨i, hi, hb, rfl⟩ := (varsM_mem' _ _).1 hv; exact cY i hi hb, fun s hs => by have := hg.len s hs; omega, fun v u hu s hs => by
    have h1 := hg.len s hs
    have h2 : u.length <= 40000 := by rcases hu with rfl | rfl <;> assumption
    have h3 := zn (l := [⟨v, u⟩]) (B := 40000) (by omega) (fun s hs => by simp at hs; subst hs; exact h2) s.ty
    have := Nat.mul_le_mul_right 40000 h1
    omega⟩
  have pX := WX.pos
  have pY := WY.pos
  have eX := List.getElem?_eq_getElem WX.pos
  have eY := List.getElem?_eq_getElem WY.pos
  have IH := QI hQ1 hQ0 hB n
  have fold : varB (putX l x)[0] = false -> (putX l x)[0].ar = (putX l y)[0].ar -> ∀ (j i : Nat) (li : List SubM), i + j = (putX l x)[0].ar.toNat -> GoodL Q li -> Ext l li -> (li = l \/ unb V li < unb V l) -> li.length + unb V li <= l.length + unb V l -> (∀ k, k < i -> putX li (kid (putX l x) k) = putX li (kid (putX l y) k)) ->
    Yf (UOk n) (uniM n) (putX l x) (putX l y) j i li /\ ∃ r, y6 (uniM n) (putX l x) (putX l y) j i li = some r /\ (r.2 = 0 -> GoodL Q r.1 /\ Ext l r.1 /\ (r.1 = l \/ unb V r.1 < unb V l) /\ r.1.length + unb V r.1 <= l.length + unb V l /\ ∀ k, k < (putX l x)[0].ar.toNat -> putX r.1 (kid (putX l x) k) = putX r.1 (kid (putX l y) k)) := by
   intro hva har j
   induction j with
   | zero =>
    intro i li hi hgi hei hli hro hk
    exact ⟨trivial, (li, 0), rfl, fun _ => ⟨hgi, hei, hli, hro, fun k hk' => hk k (by omega)⟩⟩
   | succ j ih =>
    intro i li hi hgi hei hli hro hk
    have hi1 : i < (putX l x)[0].ar.toNat := by omega
    have hi2 : i < (putX l y)[0].ar.toNat := by omega
    have bd : ∀ (z : List TyI), Bd Q l z -> Bd Q li (kid (putX l z) i) := fun z hz l' he hg' => by
     have h1 := hz l' (hei.trans he) hg'
     have h2 : putX l' (putX l z) = putX l' z := (hei.trans he) z
     obtain ⟨A, C, e⟩ := seg_sub (xs := putX l z) (p := pN (putX l z) i) (e := pN (putX l z) (i + 1))
     have h3 := congrArg (fun w => (putX l' w).length) e
     simp only [uo, List.length_append] at h3
     show (putX l' (seg _ _ _)).length <= _
     rw [h2] at h3; omega
    have hkl := kid_len WX hi1
    have hmes : unb V li * 40001 + (putX li (kid (putX l x) i)).length < n := by
     rcases hli with rfl | hlt
     ·have e : putX li (kid (putX li x) i) = kid (putX li x) i := vj fun z hz hb => cX z (YM hz) hb
      rw [e]; omega
     ·have h1 := bd x bx li (fun t => hgi.idem t) hgi
      have h2 : (unb V li + 1) * 40001 <= unb V l * 40001 := Nat.mul_le_mul_right _ hlt
      omega
    obtain ⟨u1, ⟨l1, c1⟩, u2, u3⟩ := IH li (kid (putX l x) i) (kid (putX l y) i) hgi (kid_wf WX hi1) (kid_wf WY hi2) (fun z hz => QX z (YM hz)) (fun z hz => QY z (YM hz)) (bd x bx) (bd y by_) (by omega) hmes
    have step : c1 = 0 -> GoodL Q l1 /\ Ext l l1 /\ (l1 = l \/ unb V l1 < unb V l) /\ l1.length + unb V l1 <= l.length + unb V l /\ ∀ k, k < i + 1 -> putX l1 (kid (putX l x) k) = putX l1 (kid (putX l y) k) := fun hc => by
     have q := u3 hc
     refine ⟨q.good, hei.trans q.ext, ?_, by have := q.room; simp only at this; omega, fun k hk' => ?_⟩
     ·rcases q.less with q1 | q1
      ·simp only at q1; rw [q1]; exact hli
      ·rcases hli with q2 | q2
       ·rw [q2] at q1; exact .inr q1
       ·exact .inr (Nat.lt_trans q1 q2)
     ·rcases Nat.lt_succ_iff_lt_or_eq.1 hk' with h | rfl
      ·rw [<- q.ext (kid (putX l x) k), hk k h, q.ext]
      ·exact q.same
    refine ⟨⟨u1, fun l' hl' => ?_⟩, ?_⟩
    ·rw [u2] at hl'
     injection hl' with hl'; injection hl' with e1 e2; subst e1
     obtain ⟨s1, s2, s3, s4, s5⟩ := step e2
     exact (ih (i + 1) l1 (by omega) s1 s2 s3 s4 s5).1
    ·rw [y6, u2]
     simp only
     by_cases hc : c1 = 0
     ·rw [if_pos hc]
      obtain ⟨s1, s2, s3, s4, s5⟩ := step hc
      exact (ih (i + 1) l1 (by omega) s1 s2 s3 s4 s5).2
     ·rw [if_neg hc]
      exact ⟨_, rfl, fun h => absurd h hc⟩
  have fold0 := fun h1 h2 => fold h1 h2 (putX l x)[0].ar.toNat 0 l (by omega) hg hrefl (.inl rfl) (Nat.le_refl _) (fun k hk => absurd hk (Nat.not_lt_zero _))
  refine ⟨⟨hst, fun a b ha hb va vb hnm har => ?_⟩, ?_⟩
  ·rw [eX] at ha; rw [eY] at hb
   injection ha with ha; injection hb with hb
   subst ha hb
   exact (fold0 va har).1
  ·rw [uniM, eX, eY]
   simp only
   have bY : varB (putX l x)[0] = true -> (xv l (putX l x)[0].v (putX l y)).2 = 0 -> YS Q V l x y (xv l (putX l x)[0].v (putX l y)).1 := fun hva hz => by
    have hmem := List.getElem_mem WX.pos
    exact Up hg (wG.1 (cX _ hmem hva)) (hQ1 _ (QX _ hmem) hva) WY QY cY ⟨_, QX _ hmem, hva, rfl⟩ hz (put_one WX hva _) (.inr rfl)
   have bX : varB (putX l y)[0] = true -> (xv l (putX l y)[0].v (putX l x)).2 = 0 -> YS Q V l x y (xv l (putX l y)[0].v (putX l x)).1 := fun hvb hz => by
    have hmem := List.getElem_mem WY.pos
    have q : YS Q V l y x (xv l (putX l y)[0].v (putX l x)).1 := Up hg (wG.1 (cY _ hmem hvb)) (hQ1 _ (QY _ hmem) hvb) WX QX cX ⟨_, QY _ hmem, hvb, rfl⟩ hz (put_one WY hvb _) (.inr rfl)
    exact ⟨q.good, q.ext, q.same.symm, q.less, q.room⟩
   unfold Y1
   cases hva : varB (putX l x)[0] with
   | true =>
    rw [if_pos rfl]
    cases hvb : varB (putX l y)[0] with
    | true =>
     rw [if_pos rfl]
     by_cases hvv : (putX l x)[0].v = (putX l y)[0].v
     ·rw [if_pos hvv]
      refine ⟨_, rfl, fun _ => ⟨hg, hrefl, ?_, .inl rfl, Nat.le_refl _⟩⟩
      show putX l x = putX l y
      have e : (putX l x)[0] = (putX l y)[0] := head_eq (by
       have h1 := hva; have h2 := hvb
       unfold varB at h1 h2
       rw [List.isEmpty_iff] at h1 h2
       rw [h1, h2]) hvv (by rw [WX.var _ (List.getElem_mem WX.pos) hva, WY.var _ (List.getElem_mem WY.pos) hvb])
      exact one_eq WX WY hva hvb e
     ·rw [if_neg hvv]
      split
      ·exact ⟨_, rfl, bX hvb⟩
      ·exact ⟨_, rfl, bY hva⟩
    | false => exact ⟨_, rfl, bY hva⟩
   | false =>
    rw [if_neg (by simp)]
    cases hvb : varB (putX l y)[0] with
    | true => exact ⟨_, rfl, bX hvb⟩
    | false =>
     rw [if_neg (by simp)]
     by_cases hne : (putX l x)[0].name.toList ≠ (putX l y)[0].name.toList \/ (putX l x)[0].ar ≠ (putX l y)[0].ar
     ·rw [if_pos hne]
      exact ⟨_, rfl, fun h => by cases h⟩
     ·rw [if_neg hne]
      have hne' : (putX l x)[0].name.toList = (putX l y)[0].name.toList /\ (putX l x)[0].ar = (putX l y)[0].ar := ⟨Classical.byContradiction fun q => hne (.inl q), Classical.byContradiction fun q => hne (.inr q)⟩
      obtain ⟨r, hr, hp⟩ := (fold0 hva hne'.2).2
      refine ⟨r, hr, fun hz => ?_⟩
      obtain ⟨s1, s2, s3, s4, s5⟩ := hp hz
      refine ⟨s1, s2, ?_, s3, s4⟩
      have e0 : (putX l x)[0] = (putX l y)[0] := head_eq hne'.1 (by rw [hQ0 _ (QX _ (List.getElem_mem WX.pos)) hva, hQ0 _ (QY _ (List.getElem_mem WY.pos)) hvb]) hne'.2
      rw [<- s2 x, <- s2 y]
      exact put_same WX WY r.1 e0 s5
theorem grow_g (w : World) (k : Nat) (h0 : 0 < k) (hk : k <= 1000000000) :
  Calls Tryz.prog 147 #[.slice none 0 0, .int .i64 k] w fun e w' =>
   ∃ cs : Array Value, cs.size = grownCap w k 0 143 * 3 /\ k <= grownCap w k 0 143 /\ e = .returned (.slice (some ⟨w.heap.size, 0, none⟩) 0 (grownCap w k 0 143)) /\ w' = w.drew.alloc (.cells cs 143) := by
 obtain ⟨ht, i, zv, hi, hz, hsz, hby, hzs, hk0, hz1, -, -⟩ := y7 tk_29
 have hge := grownCap_ge w k 0 143
 obtain ⟨cs, hcs, hrun⟩ : ∃ cs : Array Value, cs.size = grownCap w k 0 143 * 3 /\ ∀ ty, (Builtin.append_ #[29, 3] ty #[.slice none 0 0, .int .i64 k]).run Tryz.prog w = .ok (.slice (some ⟨w.heap.size, 0, none⟩) k (grownCap w k 0 143)) (w.drew.alloc (.cells cs 143)) := by
  refine ⟨Builtin.zeroCells zv.cells k ++ Builtin.zeroCells zv.cells (grownCap w k 0 143 - k), ?_, fun ty => ?_⟩
  ·rw [Array.size_append, size_zeroCells, size_zeroCells, hzs]
   omega
  ·have := Lib.run_append_nil_zeros (P := Tryz.prog) w 29 3 ty _ i zv .i64 .i64 ht rfl hi hz k h0 (by rw [hsz]; omega) (by omega) (by rw [hby]; omega)
   simpa using this
 refine (?_ : Calls Tryz.prog 147 _ w fun e w' => e = .returned (.slice (some ⟨w.heap.size, 0, none⟩) 0 (grownCap w k 0 143)) /\ w' = w.drew.alloc (.cells cs 143)).mono fun e w' h => ⟨cs, hcs, hge, h.1, h.2⟩
 go_enter Tryz.func147, Tryz.ntmps147
 have hn : ((k : Int) < 0) = False := by simp
 go_wp2_with (at_builtin; refine Lib.wpList_append_run _ rfl _ _ _ _ rfl _ _ rfl rfl _ _ (hrun _) ?_)
 go_ret
 exact ⟨rfl, rfl⟩
theorem grow_0 (w : World) :
  Calls Tryz.prog 147 #[.slice none 0 0, .int .i64 0] w fun e w' => e = .returned (.slice none 0 0) /\ w' = w := by
 go_enter Tryz.func147, Tryz.ntmps147
 go_wp2_with fail
 go_ret
 exact ⟨rfl, rfl⟩
theorem c_Grow (k : Nat) (hk : k <= 1000000000) :
  FCon Tryz.prog 147 [.nil, .s (.int .i64 k)] (fun r _ => r = .osl 143 3 []) := by
 refine ⟨fun vs w => ?_, fun w g vs hS hu hlen hv => ?_⟩
 ·have h1 := Tryz.func147
  have hname' : ¬ Tryz.f147.name = "runtime.NumGoroutine" := by decide
  have hbn : ¬ Tryz.f147.body = none := by decide
  simp [callFunc, h1, hname', hbn]
 ·obtain ⟨v0, v1, rfl⟩ : ∃ v0 v1, vs = [v0, v1] := by
   match vs, hlen with
   | [a, b], _ => exact ⟨a, b, rfl⟩
  have h0 : Rep g.S g.up w (some (.par 0 0)) .nil v0 := hv 0 _ v0 rfl rfl
  have h1 : Rep g.S g.up w (some (.par 1 0)) (.s (.int .i64 k)) v1 := hv 1 _ v1 rfl rfl
  have h1 := Rep.s_inv h1
  subst h1
  obtain rfl : v0 = .slice none 0 0 := by cases h0; rfl
  have hout : ∀ (g' : Gh) (w' : World) (j : Nat) (d : D) (u : Value), [D.un, D.un][j]? = some d -> [Value.slice none 0 0, Value.int .i64 k][j]? = some u -> RU g' w' j d u := fun g' w' j d u q1 q2 => by
   match j, q1 with
   | 0, q1 =>
         have q1 : D.un = d := by simpa using q1
         subst q1; trivial
   | 1, q1 =>
         have q1 : D.un = d := by simpa using q1
         subst q1; trivial
   | j + 2, q1 => simp at q1
  cases k with
  | zero =>
   refine (grow_0 w).mono ?_
   rintro e w' ⟨rfl, rfl⟩
   refine ⟨_, g, .osl 143 3 [], [.un, .un], rfl, Below.refl _ _, fun _ _ _ => rfl, fun _ q => q, fun _ _ q => .inl q, hS, fun b p hp => ⟨(hu b p hp).1, fun _ => (by rw [hp]; simp), (hu b p hp).2⟩, rfl, ?_, hout _ _⟩
   show Rep g.S g.up w' (some (.ans 0 0)) _ _
   exact .osl0
  | succ k =>
   refine (grow_g w (k + 1) (by omega) hk).mono ?_
   rintro e w' ⟨cs, m1, m2, rfl, rfl⟩
   let up' : Nat -> Option Pos := fun b0 => if b0 = w.heap.size then some (.ans 0 0) else g.up b0
   have hsz : (w.drew.alloc (.cells cs 143)).heap.size = w.heap.size + 1 := by simp
   have hlt : ∀ b0, g.S b0 -> b0 ≠ w.heap.size := fun b0 q => Nat.ne_of_lt (hS b0 q)
   have hold : ∀ b0, b0 < w.heap.size -> (w.drew.alloc (.cells cs 143)).heap[b0]? = w.heap[b0]? := fun b0 q => by
    show (w.heap.push _)[b0]? = _
    rw [Array.getElem?_push_lt q, Array.getElem?_eq_getElem q]
   refine ⟨_, ⟨g.β, g.κ, up', g.S⟩, .osl 143 3 [], [.un, .un], rfl, ?_, fun b0 q _ => hold b0 q, fun _ q => q, fun _ _ q => .inl q, fun b0 q => (by rw [hsz]; have := hS b0 q; omega), fun b0 p hp => ?_, rfl, ?_, hout _ _⟩
   ·exact Below.alloc (Below.refl _ _).drew (Nat.zero_le _) _
   ·have hp : up' b0 = some p := hp
    simp only [up'] at hp
    rw [hsz]
    split at hp
    ·subst_vars
     exact ⟨by omega, fun q => absurd q (Nat.lt_irrefl _), fun q => hlt _ q rfl⟩
    ·have := hu b0 p hp
     exact ⟨by omega, fun _ => (by rw [hp]; simp), this.2⟩
   ·show Rep g.S up' _ (some (.ans 0 0)) _ _
    exact .osl (rows := []) cs (by simp [up']) (heap_alloc_new w.drew _) (Nat.zero_le _) (grownCap_le_maxLen w (k + 1) 0 _ (by unfold maxLen; omega)) m1 (fun i row q => by simp at q) (fun i j row d q => by simp at q)
def v7 (ls : List (List TyI)) : List (List D) := ls.map fun l => [.sl 3 (l.map TyI.enc)]
theorem rowsT_len (ls : List (List TyI)) : (v7 ls).length = ls.length := by unfold v7; rw [List.length_map]
theorem Vd (ls : List (List TyI)) (k : Nat) (h : k < ls.length) : (v7 ls).getD k [] = [.sl 3 (ls[k].map TyI.enc)] := by
 unfold v7
 rw [List.getD_eq_getElem?_getD, List.getElem?_map, List.getElem?_eq_getElem h]; rfl
theorem UJ {α : Type} (ls : List (List α)) (k : Nat) (h : k < ls.length) : (ls.take (k + 1)).flatten = (ls.take k).flatten ++ ls[k] := by
 rw [List.take_succ_eq_append_getElem h, List.flatten_append]; simp
theorem flat_le {α : Type} (ls : List (List α)) (k : Nat) : (ls.take k).flatten.length <= ls.flatten.length := by
 conv => rhs; rw [<- List.take_append_drop k ls, List.flatten_append, List.length_append]
 omega
theorem VI (ls : List (List TyI)) (hl : ls.length <= 1000) (ht : ls.flatten.length <= 1000000000) : FCon Tryz.prog 100 [.sl 1 (v7 ls)] (fun r _ => r = .osl 143 3 (ls.flatten.map TyI.own)) := by
 have hll := rowsT_len ls
 refine FI PM Tryz.func100 Tryz.ntmps100 [] rfl rfl ?_
 (have hWf := w1 @hll; repeat' (first | refine zS ?_ | refine zI ?_ ?_ | exact zF0 | refine zD fun hb => ?_ | exact zC | refine zT ?_ | fail))
 refine xd (fun n σ => ∃ k : Nat, k <= ls.length /\ n = ls.length - k /\ σ.t 0 = .sl 1 (v7 ls) /\ σ.t 3 = .s (.int .i64 (ls.take k).flatten.length) /\ σ.t 9 = .sl 1 (v7 ls) /\ σ.t 10 = .s (.int .i64 ls.length) /\ σ.t 11 = .s (.int .i64 k)) ls.length ⟨0, by omega, by omega, ?_⟩ ?_
 ·simp only [go_sem, simprocAttr, hll, Int.natCast_zero, List.take_zero, List.flatten_nil, List.length_nil]
  all_goals trace_state
 ·rintro n σ ⟨k, hk, rfl, h0, h3, h9, h10, h11⟩ K' hK
  by_cases hlt : k < ls.length
  ·have hx := Vd ls k hlt
   have e3 := UJ ls k hlt
   have e4 := flat_le ls (k + 1)
   rw [e3, List.length_append] at e4
   (have hWf := w7 @h0 @h3 @h9 @h10 @h11 @hx @hll; repeat' (first | refine zS ?_ | refine zI ?_ ?_ | exact zF0 | refine zD fun hb => ?_ | exact zC | refine zT ?_ | fail))
   refine hK (ls.length - (k + 1)) _ (by omega) ⟨k + 1, by omega, rfl, ?_⟩
   simp only [go_sem, simprocAttr, h0, h3, h9, h10, h11, e3, List.length_append, Int.natCast_add, Int.natCast_succ]
  ·obtain rfl : k = ls.length := by omega
   rw [List.take_length] at h3
   have hg := c_Grow ls.flatten.length (by omega)
   (have hWf := w6 @h0 @h3 @h9 @h10 @h11 @hll; repeat' (first | refine zS ?_ | refine zI ?_ ?_ | refine zK hg ?_ | exact zF0 | refine zD fun hb => ?_ | exact zC | refine zT ?_ | fail))
   refine xd (fun n σ => ∃ k : Nat, k <= ls.length /\ n = ls.length - k /\ σ.t 6 = .bs 1024 3 (ls.take k).flatten.length /\ σ.b 1024 = some (.arr 143 3 ((ls.take k).flatten.map TyI.own)) /\ σ.t 25 = .sl 1 (v7 ls) /\ σ.t 26 = .s (.int .i64 ls.length) /\ σ.t 27 = .s (.int .i64 k)) ls.length ⟨0, by omega, by omega, ?_⟩ ?_
   ·simp only [go_sem, simprocAttr, h0, h3, h9, h10, h11, hll, Int.natCast_zero, List.take_zero, List.flatten_nil, List.length_nil, List.map_nil]
    all_goals trace_state
   ·rintro n σ ⟨k, hk, rfl, g6, gb, g25, g26, g27⟩ K' hK
    by_cases hlt : k < ls.length
    ·have hx := Vd ls k hlt
     have e3 := UJ ls k hlt
     have e4 := flat_le ls (k + 1)
     rw [e3, List.length_append] at e4
     (have hWf := w7 @g6 @gb @g25 @g26 @g27 @hx @hll; repeat' (first | refine zS ?_ | refine zI ?_ ?_ | exact zF0 | refine zD fun hb => ?_ | exact zC | refine zT ?_ | fail))
     refine hK (ls.length - (k + 1)) _ (by omega) ⟨k + 1, by omega, rfl, ?_⟩
     simp only [go_sem, simprocAttr, g6, gb, g25, g26, g27, e3, List.length_append, List.map_append, Int.natCast_succ]
     all_goals trace_state
    ·obtain rfl : k = ls.length := by omega
     rw [List.take_length] at g6 gb
     (have hWf := w6 @g6 @gb @g25 @g26 @g27 @hll; repeat' (first | refine zS ?_ | refine zI ?_ ?_ | exact zF0 | refine zD fun hb => ?_ | exact zC | refine zT ?_ | fail))
     all_goals trace_state
end
end Go.Proofs.YtmnokalddmlogaaGreat
