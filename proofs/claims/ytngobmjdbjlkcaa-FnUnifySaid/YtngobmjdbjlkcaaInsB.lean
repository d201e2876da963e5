import Derived.Test.YtngobmjdbjlkcaaHaB
import Derived.Laws.CopyRow
import Derived.Laws.AppendOwn
import Derived.Lib.AppendZerosOnto
import Derived.Lib.Overlaps
import Derived.Deep.RegionLaw
import Derived.Laws.Externs
import Derived.Lib.Hide
/- slices.Insert of one substitution's row: what it does to memory, all roads. -/
namespace Go.Proofs.Ytngobmjdbjlkcaa
set_option linter.unusedVariables false
set_option linter.unusedSimpArgs false
open Go.RowKit
/-- copy, rows of two cells. -/
theorem run_copy2 {P : Program} (w : World) (dT sT ty elem : TypeId) (g o dLen dCap : Nat) (a : Addr) (sLen sCap : Nat) (cur : Array Value) (t : TypeId) (cs : List Value)
    (hu : P.underlying dT = some (.slice elem)) (hs : (P.info? elem).map (·.size) = some 2)
    (hg : w.heap[g]? = some (.cells cur t (0, 0))) (hn : cs.length = Nat.min sLen dLen * 2)
    (hsrc : ∀ j v, cs[j]? = some v → w.cell? (a.add j) = some v) (hfit : o + cs.length ≤ cur.size) (h1 : ∀ v ∈ cs, v.oneCell' = true) :
    (Builtin.copy_ #[dT, sT] ty #[.slice (some ⟨g, o, none⟩) dLen dCap, .slice (some a) sLen sCap]).run P w =
      .ok (goInt (Nat.min sLen dLen)) (w.setRow g (cur.toList.take o ++ cs ++ cur.toList.drop (o + cs.length)).toArray) := by
  have hl := run_loadCells_list (P := P) w a cs hsrc
  have hst := run_storeCells_at P g o t cs 0 cur w hg (by simpa using hfit) h1
  cases hq : P.info? elem with
  | none => simp [hq] at hs
  | some i =>
    have hi : i.size = 2 := by simpa [hq] using hs
    simp [Builtin.copy_, run_underlying hu, Builtin.lenOf, Builtin.firstCells, sizeOf, typeInfo, hq, hi, ← hn, hl, hst]
theorem wpList_copy_run {P : Program} (w : World) {ops : Array Oper} {rest : List Oper} {o : Oper} {a : Act} {Q : Exit → Act → World → Prop} (hgd : o.guard = none) (d s : Operand) (t t' : TypeId)
    (ho : o.op = .call { callee := .builtin .copy, args := #[d, s], argTypes := #[t, t'] }) (v u : Value) (hd : a.eval d = v) (hs : a.eval s = u) {v' : Value} {w' : World}
    (hr : (Builtin.copy_ #[t, t'] o.type #[v, u]).run P w = .ok v' w') (h : wpList P ops Q rest (a.put o.dst v') w') : wpList P ops Q (o :: rest) a w :=
  wpList_plain hgd fun K hK => by
    unfold Oper.wp execOp
    simp only [ho, resolve, invoke, builtin, Sem.run_bind, Sem.run_pure, Result.andThen_ok, List.map_toArray, List.map_cons, List.map_nil, hd, hs, hr]
    exact hK _ _ h
theorem step_copy_run {P : Program} {ops : Array Oper} {o : Oper} {a : Act} {w : World} {K : Act → World → Prop} {Q : Exit → Act → World → Prop} {E : Prop}
    (hg : o.guard = none) (d x : Operand) (dT sT : TypeId) (hop : o.op = Op.call { callee := Callee.builtin Builtin.copy, args := #[d, x], argTypes := #[dT, sT] })
    (v u : Value) (hd : a.eval d = v) (hx : a.eval x = u) {v' : Value} {w' : World} (hr : (Builtin.copy_ #[dT, sT] o.type #[v, u]).run P w = .ok v' w') (hK : K (a.put o.dst v') w') :
    if Region.wanted o (yielded ops a.tmps) = true then Oper.wp P o a w K Q else E := by
  have hw : Region.wanted o (yielded ops a.tmps) = true := by simp [Region.wanted, hg]
  rw [if_pos hw]
  unfold Oper.wp
  simp [execOp, hop, resolve, invoke, builtin, hd, hx, hr, Result.andThen]
  exact hK
theorem cell_row {w : World} {b : Nat} {cs : Array Value} {e : TypeId} (h : w.heap[b]? = some (.cells cs e (0, 0))) (j : Nat) : w.cell? ⟨b, j, none⟩ = cs[j]? := by simp [World.cell?, h]
theorem cell_row_add {w : World} {b : Nat} {cs : Array Value} {e : TypeId} (h : w.heap[b]? = some (.cells cs e (0, 0))) (o j : Nat) : w.cell? ((⟨b, o, none⟩ : Addr).add j) = cs[o + j]? := by rw [Addr.add_lit]; exact cell_row h _
section
variable (w : World) (b vb n c vc : Nat) (cs vs : Array Value)
set_option maxHeartbeats 4000000 in
set_option maxRecDepth 100000 in
/-- at the end, there is room. -/
theorem ins_er (hb : w.heap[b]? = some (.cells cs 77 (0, 0))) (hc : cs.size = c * 2) (hv : w.heap[vb]? = some (.cells vs 77 (0, 0)))
    (news : List Value) (hnl : news.length = 2) (hnv : ∀ (j : Nat) v, news[j]? = some v → vs[j]? = some v) (h1 : ∀ v ∈ news, v.oneCell' = true) (hroom : n + 1 ≤ c) (hmax : c ≤ maxLen) :
    Calls Try.prog 148 #[.slice (some ⟨b, 0, none⟩) n c, .int .i64 n, .slice (some ⟨vb, 0, none⟩) 1 vc] w fun e w' =>
      e = .returned (.slice (some ⟨b, 0, none⟩) (n + 1) c) ∧ w' = w.setRow b (cs.toList.take (n * 2) ++ news ++ cs.toList.drop (n * 2 + 2)).toArray := by
  obtain ⟨ht, i, zv, hi, hz, hsz, hby, hzs, hk0, hz1, -, -⟩ := tk_sl tk_42
  have hrun : ∀ ty, (Builtin.append_ #[42, 42] ty #[.slice (some ⟨b, 0, none⟩) n c, .slice (some ⟨vb, 0, none⟩) 1 vc]).run Try.prog w = _ := fun ty =>
    run_append_room (P := Try.prog) w _ ty _ i ht hi b n c cs hb ⟨vb, 0, none⟩ 1 vc news (by rw [hsz]; exact hnl) (fun j v hj => by rw [cell_row_add hv, Nat.zero_add]; exact hnv j v hj) h1 hroom (by rw [hsz, hnl, hc]; omega)
  rw [hsz, hnl] at hrun
  go_enter Try.func148, Try.ntmps148
  go_wp2_with (at_builtin; refine Lib.wpList_append_run _ rfl _ _ _ _ rfl _ _ rfl rfl _ _ (hrun _) ?_)
  go_ret
  exact ⟨rfl, by simp⟩
set_option maxHeartbeats 4000000 in
set_option maxRecDepth 100000 in
/-- at the end, no room. -/
theorem ins_eg (base : Option Addr) (hbase : (base = none ∧ n = 0 ∧ c = 0) ∨ (base = some ⟨b, 0, none⟩ ∧ w.heap[b]? = some (.cells cs 77 (0, 0)) ∧ cs.size = c * 2 ∧ n ≤ c)) (hv : w.heap[vb]? = some (.cells vs 77 (0, 0)))
    (news : List Value) (hnl : news.length = 2) (hnv : ∀ (j : Nat) v, news[j]? = some v → vs[j]? = some v) (h1 : ∀ v ∈ news, v.oneCell' = true) (hroom : c < n + 1) (hbig : n ≤ 1000000000) :
    Calls Try.prog 148 #[.slice base n c, .int .i64 n, .slice (some ⟨vb, 0, none⟩) 1 vc] w fun e w' =>
      ∃ zs : Array Value, zs.size = (grownCap w (n + 1) c 77 - (n + 1)) * 2 ∧ e = .returned (.slice (some ⟨w.heap.size, 0, none⟩) (n + 1) (grownCap w (n + 1) c 77)) ∧ w' = w.drew.alloc (.cells ((cs.toList.take (n * 2)).toArray ++ news.toArray ++ zs) 77) := by
  obtain ⟨ht, i, zv, hi, hz, hsz, hby, hzs, hk0, hz1, -, -⟩ := tk_sl tk_42
  have hnews : ∀ (j : Nat) v, news[j]? = some v → w.cell? ((⟨vb, 0, none⟩ : Addr).add j) = some v := fun j v hj => by rw [cell_row_add hv, Nat.zero_add]; exact hnv j v hj
  obtain ⟨zs, hzl, hrun⟩ : ∃ zs : Array Value, zs.size = (grownCap w (n + 1) c 77 - (n + 1)) * 2 ∧ ∀ ty, (Builtin.append_ #[42, 42] ty #[.slice base n c, .slice (some ⟨vb, 0, none⟩) 1 vc]).run Try.prog w = .ok (.slice (some ⟨w.heap.size, 0, none⟩) (n + 1) (grownCap w (n + 1) c 77)) (w.drew.alloc (.cells ((cs.toList.take (n * 2)).toArray ++ news.toArray ++ zs) 77)) := by
    refine ⟨Builtin.zeroCells zv.cells (grownCap w (n + 1) c 77 - (n + 1)), by rw [size_zeroCells, hzs], fun ty => ?_⟩
    rcases hbase with ⟨rfl, rfl, rfl⟩ | ⟨rfl, h2, h3, h4⟩
    · have := run_append_nil (P := Try.prog) w _ ty _ i zv ht hi hz ⟨vb, 0, none⟩ 1 vc news (by rw [hsz]; exact hnl) hnews (by omega) (by omega) (by rw [hby]; omega)
      simpa using this
    · exact run_append_grow (P := Try.prog) w _ ty _ i zv ht hi hz ⟨b, 0, none⟩ n c (cs.toList.take (n * 2)) (by rw [hsz, List.length_take, Array.length_toList, h3]; simp only [Nat.min_def]; split <;> omega) (fun j v hj => by
        rw [cell_row_add h2, Nat.zero_add]
        rw [List.getElem?_take] at hj
        split at hj
        · rwa [Array.getElem?_toList] at hj
        · cases hj) ⟨vb, 0, none⟩ 1 vc news (by rw [hsz]; exact hnl) hnews (by omega) (by omega) (growslice_fits (by omega) (by rw [hby]; omega))
  clear hbase
  refine (?_ : Calls Try.prog 148 _ w fun e w' => e = .returned (.slice (some ⟨w.heap.size, 0, none⟩) (n + 1) (grownCap w (n + 1) c 77)) ∧ w' = w.drew.alloc (.cells ((cs.toList.take (n * 2)).toArray ++ news.toArray ++ zs) 77)).mono fun e w' h => ⟨zs, hzl, h.1, h.2⟩
  go_enter Try.func148, Try.ntmps148
  cases base with
  | none => 
    go_wp2_with (at_builtin; refine Lib.wpList_append_run _ rfl _ _ _ _ rfl _ _ rfl rfl _ _ (hrun _) ?_)
    go_ret
    exact ⟨rfl, rfl⟩
  | some a =>
    obtain ⟨ab, ao, asp⟩ := a
    go_wp2_with (at_builtin; refine Lib.wpList_append_run _ rfl _ _ _ _ rfl _ _ rfl rfl _ _ (hrun _) ?_)
    all_goals (go_ret; exact ⟨rfl, rfl⟩)
set_option maxHeartbeats 4000000 in
set_option maxRecDepth 100000 in
/-- within, there is room. -/
theorem ins_ir (i : Nat) (hin : i < n) (hb : w.heap[b]? = some (.cells cs 77 (0, 0))) (hc : cs.size = c * 2) (hv : w.heap[vb]? = some (.cells vs 77 (0, 0))) (hvb : vb ≠ b)
    (news : List Value) (hnl : news.length = 2) (hnv : ∀ (j : Nat) v, news[j]? = some v → vs[j]? = some v) (h1 : ∀ v ∈ news, v.oneCell' = true) (h1c : ∀ v ∈ (cs.toList.drop (i * 2)).take ((n - i) * 2), v.oneCell' = true) (hroom : n + 1 ≤ c) (hn9 : n ≤ 1000000000) :
    Calls Try.prog 148 #[.slice (some ⟨b, 0, none⟩) n c, .int .i64 i, .slice (some ⟨vb, 0, none⟩) 1 vc] w fun e w' =>
      e = .returned (.slice (some ⟨b, 0, none⟩) (n + 1) c) ∧ ∃ cs1 : List Value, cs1 = cs.toList.take ((i + 1) * 2) ++ (cs.toList.drop (i * 2)).take ((n - i) * 2) ++ cs.toList.drop ((i + 1) * 2 + (n - i) * 2) ∧ w' = (w.drew.setRow b cs1.toArray).setRow b (cs1.take (i * 2) ++ news ++ cs1.drop (i * 2 + 2)).toArray := by
  obtain ⟨ht, i0, zv, hi, hz, hsz, hby, hzs, hk0, hz1, -, -⟩ := tk_sl tk_42
  have hcl : cs.toList.length = c * 2 := by rw [Array.length_toList, hc]
  have hov : ∀ lb cb o, (callFunc 163 #[.slice (some ⟨vb, 0, none⟩) 1 vc, .slice (some ⟨b, o, none⟩) lb cb]).run Try.prog w = .ok (.value (.bool false)) w := fun lb cb o => by
    rw [run_callFunc_extern Try.func163 (by kernel_rfl) (by kernel_rfl) (by kernel_rfl) (e := Extern.SlicesOverlaps.overlaps #[42, 42] #[4]) (by kernel_rfl),
      Lib.run_overlaps_apart w 42 4 77 ht 2 (tk_slice_len tk_42) ⟨vb, 0, none⟩ ⟨b, o, none⟩ 1 vc lb cb hvb 77 77 vs.size cs.size (by simp [World.shape?, hv]) (by simp [World.shape?, hb]) (by omega) (by simp [World.frozen?, hv]) (by simp [World.frozen?, hv])]
    rfl
  have hz2 : ¬ ((i : Int) = (n : Int)) := by omega
  have hz3 : ¬ ((c : Int) < (n : Int) + 1) := by omega
  have hw1 : IntKind.i64.wrap ((i : Int) + 1) = (i : Int) + 1 := by rw [IntKind.wrap_i64]; omega
  have htn : ((i : Int) + 1).toNat = i + 1 := by omega
  have hb3 : (i : Int) + 1 ≤ (n : Int) + 1 := by omega
  have hb5 : (i : Int) ≤ (n : Int) + 1 := by omega
  have hb1 : (0 : Int) ≤ (i : Int) + 1 := by omega
  have hb2 : ¬ (c = i + 1) := by omega
  have hb4 : ¬ (c = i) := by omega
  obtain ⟨mid, hmid⟩ : ∃ mid, mid = (cs.toList.drop (i * 2)).take ((n - i) * 2) := ⟨_, rfl⟩
  have hml : mid.length = (n - i) * 2 := by rw [hmid, List.length_take, List.length_drop, hcl]; simp only [Nat.min_def]; split <;> omega
  rw [← hmid] at h1c ⊢
  have hsize : (Try.prog.info? 77).map (·.size) = some 2 := by rw [hi]; simp [hsz]
  have hcp1 : ∀ ty dc sc, (Builtin.copy_ #[42, 42] ty #[.slice (some ⟨b, (i + 1) * 2, none⟩) (n - i) dc, .slice (some ⟨b, i * 2, none⟩) (n + 1 - i) sc]).run Try.prog w.drew = .ok (goInt (Nat.min (n + 1 - i) (n - i))) (w.drew.setRow b (cs.toList.take ((i + 1) * 2) ++ mid ++ cs.toList.drop ((i + 1) * 2 + mid.length)).toArray) := fun ty dc sc =>
    run_copy2 w.drew _ _ ty 77 b ((i + 1) * 2) (n - i) dc ⟨b, i * 2, none⟩ (n + 1 - i) sc cs _ mid ht hsize hb (by rw [hml]; simp only [Nat.min_def]; split <;> omega) (fun j v hj => by
      rw [cell_row_add (w := w.drew) hb, ← Array.getElem?_toList]
      rw [hmid, List.getElem?_take] at hj
      split at hj
      · rwa [List.getElem?_drop] at hj
      · cases hj) (by rw [hml, hc]; omega) h1c
  rw [hml] at hcp1
  obtain ⟨cs1, hcs1⟩ : ∃ cs1, cs1 = cs.toList.take ((i + 1) * 2) ++ mid ++ cs.toList.drop ((i + 1) * 2 + (n - i) * 2) := ⟨_, rfl⟩
  rw [← hcs1] at hcp1
  have hc1l : cs1.length = c * 2 := by rw [hcs1, List.length_append, List.length_append, List.length_take, List.length_drop, hcl, hml]; simp only [Nat.min_def]; split <;> omega
  have hW : (w.drew.setRow b cs1.toArray).heap[b]? = some (.cells cs1.toArray 77 (0, 0)) := setRow_heap w.drew b cs _ _ _ hb
  have hWv : (w.drew.setRow b cs1.toArray).heap[vb]? = some (.cells vs 77 (0, 0)) := by rw [setRow_other _ _ _ _ hvb]; exact hv
  have hcp2 : ∀ ty dc, (Builtin.copy_ #[42, 42] ty #[.slice (some ⟨b, i * 2, none⟩) (n + 1 - i) dc, .slice (some ⟨vb, 0, none⟩) 1 vc]).run Try.prog (w.drew.setRow b cs1.toArray) = .ok (goInt (Nat.min 1 (n + 1 - i))) ((w.drew.setRow b cs1.toArray).setRow b (cs1.toArray.toList.take (i * 2) ++ news ++ cs1.toArray.toList.drop (i * 2 + news.length)).toArray) := fun ty dc =>
    run_copy2 (w.drew.setRow b cs1.toArray) _ _ ty 77 b (i * 2) (n + 1 - i) dc ⟨vb, 0, none⟩ 1 vc cs1.toArray _ news ht hsize hW (by rw [hnl]; simp only [Nat.min_def]; split <;> omega) (fun j v hj => by
      rw [cell_row_add hWv, Nat.zero_add]; exact hnv j v hj) (by rw [hnl, List.size_toArray, hc1l]; omega) h1
  rw [hnl] at hcp2
  refine (?_ : Calls Try.prog 148 _ w fun e w' => e = .returned (.slice (some ⟨b, 0, none⟩) (n + 1) c) ∧ w' = (w.drew.setRow b cs1.toArray).setRow b (cs1.toArray.toList.take (i * 2) ++ news ++ cs1.toArray.toList.drop (i * 2 + 2)).toArray).mono fun e w' h => ⟨h.1, cs1, hcs1, h.2⟩
  have HC := Lib.hid hcs1; clear hcs1
  have HM := Lib.hid hmid; clear hmid
  have mixed := mixed
  go_enter Try.func148, Try.ntmps148
  go_wp2_with (simp only [hov])
  go_region_law (refine step_copy_run rfl _ _ 42 42 rfl _ _ (by simp [Act.eval, Act.put]) (by simp [Act.eval, Act.put]) (hcp1 _ _ _) ?_)
  go_wp2_with (at_builtin; refine wpList_copy_run _ rfl _ _ 42 42 rfl _ _ rfl rfl (hcp2 _ _) ?_)
  go_ret
  exact ⟨rfl, by simp⟩
set_option maxHeartbeats 4000000 in
set_option maxRecDepth 100000 in
/-- within, no room. -/
theorem ins_ig (i : Nat) (hin : i < n) (hb : w.heap[b]? = some (.cells cs 77 (0, 0))) (hc : cs.size = c * 2) (hv : w.heap[vb]? = some (.cells vs 77 (0, 0)))
    (news : List Value) (hnl : news.length = 2) (hnv : ∀ (j : Nat) v, news[j]? = some v → vs[j]? = some v) (h1 : ∀ v ∈ news, v.oneCell' = true) (h1c : ∀ v ∈ (cs.toList.drop (i * 2)).take ((n - i) * 2), v.oneCell' = true) (hnc : n ≤ c) (hroom : c < n + 1) (hmax : c ≤ 1000000000) :
    Calls Try.prog 148 #[.slice (some ⟨b, 0, none⟩) n c, .int .i64 i, .slice (some ⟨vb, 0, none⟩) 1 vc] w fun e w' =>
      e = .returned (.slice (some ⟨w.heap.size, 0, none⟩) (n + 1) (grownCap w (n + 1) c 77)) ∧ ∃ (zs : List Value) (row0 row1 : List Value), zs.length = (n + 1 - i) * 2 + (grownCap w (n + 1) c 77 - (n + 1)) * 2 ∧ row0 = cs.toList.take (i * 2) ++ zs ∧
        row1 = row0.take (i * 2) ++ news ++ row0.drop (i * 2 + 2) ∧ w' = (((w.drew.alloc (.cells row0.toArray 77)).setRow w.heap.size row1.toArray).drew).setRow w.heap.size (row1.take ((i + 1) * 2) ++ (cs.toList.drop (i * 2)).take ((n - i) * 2) ++ row1.drop ((i + 1) * 2 + (n - i) * 2)).toArray := by
  obtain ⟨ht, i0, zv, hi, hz, hsz, hby, hzs, hk0, hz1, -, -⟩ := tk_sl tk_42
  have hti : Try.prog.underlying 3 = some (.int .i64) := by kernel_rfl
  have hcl : cs.toList.length = c * 2 := by rw [Array.length_toList, hc]
  have hz2 : ¬ ((i : Int) = (n : Int)) := by omega
  have hz3 : (c : Int) < (n : Int) + 1 := by omega
  have hsize : (Try.prog.info? 77).map (·.size) = some 2 := by rw [hi]; simp [hsz]
  obtain ⟨G, hG⟩ : ∃ G, G = grownCap w (n + 1) c 77 := ⟨_, rfl⟩
  have hGe : n + 1 ≤ G := by rw [hG]; exact grownCap_ge w (n + 1) c _
  obtain ⟨zs, hzl, hrz⟩ : ∃ zs : List Value, zs.length = (n + 1 - i) * 2 + (G - (n + 1)) * 2 ∧ ∀ ty, (Builtin.append_ #[42, 3] ty #[.slice (some ⟨b, 0, none⟩) i c, .int .i64 ((n : Int) + 1 - (i : Int))]).run Try.prog w =
      .ok (.slice (some ⟨w.heap.size, 0, none⟩) (n + 1) G) (w.drew.alloc (.cells (cs.toList.take (i * 2) ++ zs).toArray 77)) := by
    refine ⟨(Builtin.zeroCells zv.cells (n + 1 - i)).toList ++ (Builtin.zeroCells zv.cells (G - (n + 1))).toList, by rw [List.length_append, Array.length_toList, Array.length_toList, size_zeroCells, size_zeroCells, hzs], fun ty => ?_⟩
    have hold : (Builtin.firstCells i0.size i (.slice (some ⟨b, 0, none⟩) i c)).run Try.prog w.drew = .ok (cs.toList.take (i * 2)).toArray w.drew :=
      run_firstCells_some (P := Try.prog) w.drew i0.size i ⟨b, 0, none⟩ i c (cs.toList.take (i * 2)) (by rw [hsz, List.length_take, hcl]; simp only [Nat.min_def]; split <;> omega) (fun j v hj => by
        rw [cell_row_add (w := w.drew) hb, Nat.zero_add]
        rw [List.getElem?_take] at hj
        split at hj
        · rwa [Array.getElem?_toList] at hj
        · cases hj)
    have h := Lib.run_append_grow_zeros (P := Try.prog) w _ _ ty _ i0 zv .i64 .i64 ht hti hi hz (some ⟨b, 0, none⟩) i c _ hold (n + 1 - i) (by omega) (by omega) (by omega) (by omega) (by rw [hby]; omega) (by rw [hby]; exact growslice_fits (by omega) (by omega))
    have e1 : i + (n + 1 - i) = n + 1 := by omega
    have e2 : (n : Int) + 1 - (i : Int) = ((n + 1 - i : Nat) : Int) := by omega
    rw [e1, ← hG] at h
    rw [e2, h]
    congr 3
    simp
  obtain ⟨row0, hrow0⟩ : ∃ row0, row0 = cs.toList.take (i * 2) ++ zs := ⟨_, rfl⟩
  rw [← hrow0] at hrz
  have h0l : row0.length = G * 2 := by rw [hrow0, List.length_append, List.length_take, hcl, hzl]; simp only [Nat.min_def]; split <;> omega
  obtain ⟨W1, hW1⟩ : ∃ W1, W1 = w.drew.alloc (.cells row0.toArray 77) := ⟨_, rfl⟩
  rw [← hW1] at hrz
  have hbw : b < w.heap.size := (Array.getElem?_eq_some_iff.1 hb).1
  have hvw : vb < w.heap.size := (Array.getElem?_eq_some_iff.1 hv).1
  have hW1n : W1.heap[w.heap.size]? = some (.cells row0.toArray 77 (0, 0)) := by rw [hW1]; exact heap_alloc_new w.drew _
  have hW1o : ∀ b', b' < w.heap.size → W1.heap[b']? = w.heap[b']? := fun b' q => by rw [hW1]; exact Below.heap_alloc w.drew _ _ q
  have hcp1 : ∀ ty dc, (Builtin.copy_ #[42, 42] ty #[.slice (some ⟨w.heap.size, i * 2, none⟩) (n + 1 - i) dc, .slice (some ⟨vb, 0, none⟩) 1 vc]).run Try.prog W1 = .ok (goInt (Nat.min 1 (n + 1 - i))) (W1.setRow w.heap.size (row0.toArray.toList.take (i * 2) ++ news ++ row0.toArray.toList.drop (i * 2 + news.length)).toArray) := fun ty dc =>
    run_copy2 W1 _ _ ty 77 w.heap.size (i * 2) (n + 1 - i) dc ⟨vb, 0, none⟩ 1 vc row0.toArray _ news ht hsize hW1n (by rw [hnl]; simp only [Nat.min_def]; split <;> omega) (fun j v hj => by
      rw [cell_row_add (w := W1) ((hW1o vb hvw).trans hv), Nat.zero_add]; exact hnv j v hj) (by rw [hnl, List.size_toArray, h0l]; omega) h1
  rw [hnl] at hcp1
  simp only [List.toList_toArray] at hcp1
  obtain ⟨row1, hrow1⟩ : ∃ row1, row1 = row0.take (i * 2) ++ news ++ row0.drop (i * 2 + 2) := ⟨_, rfl⟩
  rw [← hrow1] at hcp1
  have h1l : row1.length = G * 2 := by rw [hrow1, List.length_append, List.length_append, List.length_take, List.length_drop, h0l, hnl]; simp only [Nat.min_def]; split <;> omega
  obtain ⟨W2, hW2⟩ : ∃ W2, W2 = W1.setRow w.heap.size row1.toArray := ⟨_, rfl⟩
  rw [← hW2] at hcp1
  have hW2n : W2.heap[w.heap.size]? = some (.cells row1.toArray 77 (0, 0)) := by rw [hW2]; exact setRow_heap W1 _ _ _ _ _ hW1n
  have hW2o : ∀ b', b' < w.heap.size → W2.heap[b']? = w.heap[b']? := fun b' q => by rw [hW2, setRow_other _ _ _ _ (by omega)]; exact hW1o b' q
  obtain ⟨mid, hmid⟩ : ∃ mid, mid = (cs.toList.drop (i * 2)).take ((n - i) * 2) := ⟨_, rfl⟩
  have hml : mid.length = (n - i) * 2 := by rw [hmid, List.length_take, List.length_drop, hcl]; simp only [Nat.min_def]; split <;> omega
  rw [← hmid] at h1c ⊢
  have hcp2 : ∀ ty dc sc, (Builtin.copy_ #[42, 42] ty #[.slice (some ⟨w.heap.size, (i + 1) * 2, none⟩) (n - i) dc, .slice (some ⟨b, i * 2, none⟩) (n - i) sc]).run Try.prog W2.drew = .ok (goInt (Nat.min (n - i) (n - i))) (W2.drew.setRow w.heap.size (row1.toArray.toList.take ((i + 1) * 2) ++ mid ++ row1.toArray.toList.drop ((i + 1) * 2 + mid.length)).toArray) := fun ty dc sc =>
    run_copy2 W2.drew _ _ ty 77 w.heap.size ((i + 1) * 2) (n - i) dc ⟨b, i * 2, none⟩ (n - i) sc row1.toArray _ mid ht hsize hW2n (by rw [hml]; simp only [Nat.min_def]; split <;> omega) (fun j v hj => by
      rw [cell_row_add (w := W2.drew) ((hW2o b hbw).trans hb), ← Array.getElem?_toList]
      rw [hmid, List.getElem?_take] at hj
      split at hj
      · rwa [List.getElem?_drop] at hj
      · cases hj) (by rw [hml, List.size_toArray, h1l]; omega) h1c
  rw [hml] at hcp2
  simp only [List.toList_toArray] at hcp2
  refine (?_ : Calls Try.prog 148 _ w fun e w' => e = .returned (.slice (some ⟨w.heap.size, 0, none⟩) (n + 1) G) ∧ w' = W2.drew.setRow w.heap.size (row1.take ((i + 1) * 2) ++ mid ++ row1.drop ((i + 1) * 2 + (n - i) * 2)).toArray).mono fun e w' h => ⟨hG ▸ h.1, zs, row0, row1, hG ▸ hzl, hrow0, hrow1, by rw [h.2, hW2, hW1]⟩
  have hw1 : IntKind.i64.wrap ((i : Int) + 1) = (i : Int) + 1 := by rw [IntKind.wrap_i64]; omega
  have htn : ((i : Int) + 1).toNat = i + 1 := by omega
  have hb3 : (i : Int) + 1 ≤ (n : Int) + 1 := by omega
  have hb5 : (i : Int) ≤ (n : Int) + 1 := by omega
  have hb1 : (0 : Int) ≤ (i : Int) + 1 := by omega
  have hb2 : ¬ (G = i + 1) := by omega
  have hb4 : ¬ (G = i) := by omega
  have hb6 : ¬ (c = i) := by omega
  have hb7 : (i : Int) ≤ (n : Int) := by omega
  have hb8 : i ≤ n := by omega
  have hw3 : IntKind.i64.wrap ((n : Int) + 1 - (i : Int)) = (n : Int) + 1 - (i : Int) := by rw [IntKind.wrap_i64]; omega
  have H0 := Lib.hid hrow0; clear hrow0
  have H1 := Lib.hid hrow1; clear hrow1
  have HM := Lib.hid hmid; clear hmid
  have HG := Lib.hid hG; clear hG
  have HA := Lib.hid hW1; clear hW1
  have HB := Lib.hid hW2; clear hW2
  have mixed := mixed
  go_enter Try.func148, Try.ntmps148
  go_wp2_with (at_builtin; first | (refine Lib.wpList_append_run _ rfl _ _ _ _ rfl _ _ rfl rfl _ _ (hrz _) ?_) | (refine wpList_copy_run _ rfl _ _ 42 42 rfl _ _ rfl rfl (hcp1 _ _) ?_))
  go_region_law (refine step_copy_run rfl _ _ 42 42 rfl _ _ (by simp [Act.eval, Act.put]) (by simp [Act.eval, Act.put]) (hcp2 _ _ _) ?_)
  go_wp2_with fail
  go_ret
  exact ⟨rfl, by simp⟩
end
end Go.Proofs.Ytngobmjdbjlkcaa

/- slices.Insert of one substitution's row, over the second engine. -/
namespace Go.Proofs.Ytngobmjdbjlkcaa
set_option linter.unusedVariables false
set_option linter.unusedSimpArgs false
open Go.RowKit
theorem Rep.sl_none {S : Nat → Prop} {up : Nat → Option Pos} {w : World} {p : Option Pos} {k : Nat} {rows : List (List D)} {v : Value} (h : Rep S up w p (.sl k rows) v) : Rep S up w none (.sl k rows) v := by
  cases h with
  | sl0 h => exact .sl0 h
  | sl us h1 h2 h3 h4 h5 => exact .sl us h1 h2 h3 h4 h5
/-- what insertion leaves: a block with the rows in order. -/
def InsOut (w w' : World) (b n : Nat) (T : List Value) (e : Ending) : Prop :=
  ∃ (b' c' : Nat) (cs' : Array Value), e = .returned (.slice (some ⟨b', 0, none⟩) (n + 1) c') ∧ w'.heap[b']? = some (.cells cs' 77 (0, 0)) ∧ cs'.size = c' * 2 ∧ n + 1 ≤ c' ∧ c' ≤ maxLen ∧
    (∀ j v, T[j]? = some v → cs'.getD j undef = v) ∧ (b' = b ∨ b' = w.heap.size) ∧ (∀ b0, b0 < w.heap.size → b0 ≠ b → w'.heap[b0]? = w.heap[b0]?) ∧ Below 0 w w'
theorem row_size (w : World) (g : Nat) (cs : Array Value) : (w.setRow g cs).heap.size = w.heap.size := setRow_size w g cs
theorem below_row (w : World) (g : Nat) (cs : Array Value) : Below 0 w (w.setRow g cs) := ⟨rfl, rfl, rfl, by simp, fun c hc => by omega⟩
theorem getD_list (l : List Value) (j : Nat) (v : Value) (h : l[j]? = some v) : l.toArray.getD j undef = v := by
  rw [Array.getD_eq_getD_getElem?, List.getElem?_toArray, h]; rfl
theorem pre_get {α : Type} {l l' T : List α} {j : Nat} {v : α} (h : ∃ r, l = T ++ r) (hj : T[j]? = some v) : l[j]? = some v := by
  obtain ⟨r, rfl⟩ := h
  rw [List.getElem?_append_left (List.getElem?_eq_some_iff.1 hj).1]; exact hj
theorem ins_all (w : World) (b vb n c vc i : Nat) (cs vs : Array Value) (base : Option Addr) (hi : i ≤ n) (hbase : (base = none ∧ n = 0 ∧ c = 0 ∧ cs = #[] ∧ b = w.heap.size) ∨ (base = some ⟨b, 0, none⟩ ∧ w.heap[b]? = some (.cells cs 77 (0, 0)) ∧ cs.size = c * 2 ∧ n ≤ c)) (hcm : c ≤ maxLen) (hv : w.heap[vb]? = some (.cells vs 77 (0, 0))) (hvb : vb ≠ b)
    (news : List Value) (hnl : news.length = 2) (hnv : ∀ (j : Nat) v, news[j]? = some v → vs[j]? = some v) (h1 : ∀ v ∈ news, v.oneCell' = true) (h1c : ∀ v ∈ cs.toList.take (n * 2), v.oneCell' = true) (hn9 : n ≤ 1000000) :
    Calls Try.prog 148 #[.slice base n c, .int .i64 i, .slice (some ⟨vb, 0, none⟩) 1 vc] w fun e w' => InsOut w w' b n (cs.toList.take (i * 2) ++ news ++ (cs.toList.drop (i * 2)).take ((n - i) * 2)) e := by
  have h1c' : ∀ v ∈ (cs.toList.drop (i * 2)).take ((n - i) * 2), v.oneCell' = true := fun v hv => h1c v (by
    rw [Nat.sub_mul, ← List.drop_take] at hv
    exact List.mem_of_mem_drop hv)
  have h9 : ∀ k, k ≤ 1000001 → k ≤ maxLen := fun k hk => by simp only [maxLen]; omega
  rcases Nat.lt_or_ge c (n + 1) with hg | hr
  · rcases Nat.lt_or_ge i n with hin | hin
    · obtain ⟨rfl, k2, k3, k4⟩ : base = some ⟨b, 0, none⟩ ∧ w.heap[b]? = some (.cells cs 77 (0, 0)) ∧ cs.size = c * 2 ∧ n ≤ c := by
        rcases hbase with ⟨-, q, -⟩ | q
        · omega
        · exact q
      have hcl : cs.toList.length = c * 2 := by rw [Array.length_toList, k3]
      refine (ins_ig w b vb n c vc cs vs i hin k2 k3 hv news hnl hnv h1 h1c' k4 hg (by omega)).mono ?_
      rintro e w' ⟨rfl, zs, row0, row1, hz, h0, h1r, rfl⟩
      have hge := grownCap_ge w (n + 1) c 77
      obtain ⟨G, hG⟩ : ∃ G, G = grownCap w (n + 1) c 77 := ⟨_, rfl⟩
      rw [← hG] at hz hge ⊢
      have h0l : row0.length = G * 2 := by rw [h0, List.length_append, List.length_take, hcl, hz]; simp only [Nat.min_def]; split <;> omega
      have h1l : row1.length = G * 2 := by rw [h1r, List.length_append, List.length_append, List.length_take, List.length_drop, h0l, hnl]; simp only [Nat.min_def]; split <;> omega
      have hml : ((cs.toList.drop (i * 2)).take ((n - i) * 2)).length = (n - i) * 2 := by rw [List.length_take, List.length_drop, hcl]; simp only [Nat.min_def]; split <;> omega
      refine ⟨_, _, _, rfl, setRow_heap _ _ row1.toArray _ _ _ (setRow_heap _ _ row0.toArray _ _ _ (heap_alloc_new w.drew _)), ?_, hge, by rw [hG]; exact grownCap_le_maxLen w _ c _ (h9 _ (by omega)), fun j v hj => getD_list _ _ _ (pre_get (l' := []) ⟨row1.drop ((i + 1) * 2 + (n - i) * 2), ?_⟩ hj), .inr rfl, fun b0 q _ => ?_, ?_⟩
      · simp only [List.size_toArray, List.length_append, hml, List.length_take, List.length_drop, h1l, Nat.min_def]; split <;> omega
      · congr 1
        rw [List.append_cancel_right_eq]
        rw [h1r, h0]
        have e1 : (cs.toList.take (i * 2) ++ zs).take (i * 2) = cs.toList.take (i * 2) := by
          rw [List.take_append_of_le_length (by rw [List.length_take, hcl]; simp only [Nat.min_def]; split <;> omega), List.take_take, Nat.min_self]
        rw [e1, List.take_append_of_le_length (by rw [List.length_append, List.length_take, hcl, hnl]; simp only [Nat.min_def]; split <;> omega), List.take_of_length_le (by rw [List.length_append, List.length_take, hcl, hnl]; simp only [Nat.min_def]; split <;> omega)]
      · rw [setRow_other _ _ _ _ (by omega)]
        show ((w.drew.alloc _).setRow _ _).heap[b0]? = _
        rw [setRow_other _ _ _ _ (by omega)]
        exact Below.heap_alloc w.drew _ _ q
      · exact ((((Below.refl _ _).drew.trans ((Below.refl _ _).alloc (Nat.zero_le _) _)).trans (below_row _ _ _)).drew).trans (below_row _ _ _)
    · obtain rfl : i = n := by omega
      refine (ins_eg w b vb i c vc cs vs base (by
        rcases hbase with ⟨q1, q2, q3, -, -⟩ | ⟨q1, q2, q3, q4⟩
        · exact .inl ⟨q1, q2, q3⟩
        · exact .inr ⟨q1, q2, q3, q4⟩) hv news hnl hnv h1 hg (by omega)).mono ?_
      rintro e w' ⟨zs, hz, rfl, rfl⟩
      have hge := grownCap_ge w (i + 1) c 77
      have hcl : (cs.toList.take (i * 2)).length = i * 2 := by
        rcases hbase with ⟨-, rfl, -, rfl, -⟩ | ⟨-, -, q3, q4⟩
        · rfl
        · rw [List.length_take, Array.length_toList, q3]; simp only [Nat.min_def]; split <;> omega
      refine ⟨_, _, _, rfl, heap_alloc_new w.drew _, ?_, hge, grownCap_le_maxLen w _ c _ (h9 _ (by omega)), fun j v hj => ?_, .inr rfl, fun b0 q _ => Below.heap_alloc w.drew _ _ q, (Below.refl _ _).drew.trans ((Below.refl _ _).alloc (Nat.zero_le _) _)⟩
      · rw [Array.size_append, Array.size_append, List.size_toArray, List.size_toArray, hcl, hnl, hz]; omega
      · simp only [Nat.sub_self, Nat.zero_mul, List.take_zero, List.append_nil] at hj
        rw [Array.getD_eq_getD_getElem?, ← Array.getElem?_toList, Array.toList_append, Array.toList_append, pre_get (l' := []) ⟨zs.toList, rfl⟩ hj]; rfl
  · obtain ⟨rfl, k2, k3, k4⟩ : base = some ⟨b, 0, none⟩ ∧ w.heap[b]? = some (.cells cs 77 (0, 0)) ∧ cs.size = c * 2 ∧ n ≤ c := by
      rcases hbase with ⟨-, q, q', -⟩ | q
      · omega
      · exact q
    have hcl : cs.toList.length = c * 2 := by rw [Array.length_toList, k3]
    rcases Nat.lt_or_ge i n with hin | hin
    · refine (ins_ir w b vb n c vc cs vs i hin k2 k3 hv hvb news hnl hnv h1 h1c' hr (by omega)).mono ?_
      rintro e w' ⟨rfl, cs1, h1r, rfl⟩
      have hml : ((cs.toList.drop (i * 2)).take ((n - i) * 2)).length = (n - i) * 2 := by rw [List.length_take, List.length_drop, hcl]; simp only [Nat.min_def]; split <;> omega
      have h1l : cs1.length = c * 2 := by rw [h1r, List.length_append, List.length_append, List.length_take, List.length_drop, hcl, hml]; simp only [Nat.min_def]; split <;> omega
      refine ⟨_, _, _, rfl, setRow_heap _ _ cs1.toArray _ _ _ (setRow_heap _ _ cs _ _ _ k2), ?_, hr, hcm, fun j v hj => getD_list _ _ _ (pre_get (l' := []) ⟨cs.toList.drop ((i + 1) * 2 + (n - i) * 2), ?_⟩ hj), .inl rfl, fun b0 q q' => ?_, ?_⟩
      · simp only [List.size_toArray, List.length_append, hnl, List.length_take, List.length_drop, h1l, Nat.min_def]; split <;> omega
      · rw [h1r]
        have e1 : (cs.toList.take ((i + 1) * 2) ++ (cs.toList.drop (i * 2)).take ((n - i) * 2) ++ cs.toList.drop ((i + 1) * 2 + (n - i) * 2)).take (i * 2) = cs.toList.take (i * 2) := by
          rw [List.append_assoc, List.take_append_of_le_length (by rw [List.length_take, hcl]; simp only [Nat.min_def]; split <;> omega), List.take_take]
          congr 1; simp only [Nat.min_def]; split <;> omega
        have e2 : (cs.toList.take ((i + 1) * 2) ++ (cs.toList.drop (i * 2)).take ((n - i) * 2) ++ cs.toList.drop ((i + 1) * 2 + (n - i) * 2)).drop (i * 2 + 2) = (cs.toList.drop (i * 2)).take ((n - i) * 2) ++ cs.toList.drop ((i + 1) * 2 + (n - i) * 2) := by
          rw [List.append_assoc, List.drop_append_of_le_length (by rw [List.length_take, hcl]; simp only [Nat.min_def]; split <;> omega), List.drop_of_length_le (by rw [List.length_take, hcl]; simp only [Nat.min_def]; split <;> omega), List.nil_append]
        rw [e1, e2]; simp
      · rw [setRow_other _ _ _ _ q', setRow_other _ _ _ _ q']; rfl
      · exact ((Below.refl _ _).drew.trans (below_row _ _ _)).trans (below_row _ _ _)
    · obtain rfl : i = n := by omega
      refine (ins_er w b vb i c vc cs vs k2 k3 hv news hnl hnv h1 hr hcm).mono ?_
      rintro e w' ⟨rfl, rfl⟩
      refine ⟨_, _, _, rfl, setRow_heap _ _ cs _ _ _ k2, ?_, hr, hcm, fun j v hj => ?_, .inl rfl, fun b0 q q' => setRow_other _ _ _ _ q', below_row _ _ _⟩
      · simp only [List.size_toArray, List.length_append, hnl, List.length_take, List.length_drop, hcl, Nat.min_def]; split <;> omega
      · simp only [Nat.sub_self, Nat.zero_mul, List.take_zero, List.append_nil] at hj
        exact getD_list _ _ _ (pre_get (l' := []) ⟨_, rfl⟩ hj)
def insL (l : List SubM) (i : Nat) (x : SubM) : List SubM := l.take i ++ x :: l.drop i
theorem SubM.enc_len (x : SubM) : x.enc.length = 2 := rfl
theorem enc_flat (l : List SubM) (cs : Array Value) (S : Nat → Prop) (up : Nat → Option Pos) (w : World) (b : Nat) (hcs : ∀ (i j : Nat) (row : List D) (d : D), (l.map SubM.enc)[i]? = some row → row[j]? = some d → Rep S up w (some (.cell b (i * 2 + j))) d (cs.getD (i * 2 + j) undef)) (q : Nat) (hq : q < l.length) (j : Nat) (hj : j < 2) :
    ∃ d, (l[q].enc)[j]? = some d ∧ Rep S up w (some (.cell b (q * 2 + j))) d (cs.getD (q * 2 + j) undef) := by
  have hj' : j < l[q].enc.length := by rw [SubM.enc_len]; exact hj
  exact ⟨l[q].enc[j], List.getElem?_eq_getElem hj', hcs q j _ _ (by rw [List.getElem?_map, List.getElem?_eq_getElem hq]; rfl) (List.getElem?_eq_getElem hj')⟩
/-- a cell of a substitution's row, elsewhere. -/
theorem enc_move {S S' : Nat → Prop} {up up' : Nat → Option Pos} {w w' : World} (hS : ∀ b, S b → S' b ∧ w'.heap[b]? = w.heap[b]?) {x : SubM} {j : Nat} {d : D} {p : Option Pos} {v : Value} (hd : x.enc[j]? = some d) (h : Rep S up w p d v) (p' : Option Pos) : Rep S' up' w' p' d v := by
  have mv : Mv (fun _ => False) (fun p => p) ⟨fun _ => none, fun _ => 0, up, S⟩ ⟨fun _ => none, fun _ => 0, up', S'⟩ w w' := ⟨hS, fun b p _ q => q.elim, fun b p o _ q => q.elim⟩
  rw [SubM.enc_eq] at hd
  match j, hd with
  | 0, hd =>
    have hd : D.s (.int .i64 x.v) = d := by simpa using hd
    subst hd
    have := Rep.s_inv h
    subst this
    exact .s rfl
  | 1, hd =>
    have hd : D.sl 3 (x.ty.map TyI.enc) = d := by simpa using hd
    subst hd
    have := Rep.move mv (h.sl_none) (fun q hq => by cases hq)
    exact Rep.any this p'
  | j + 2, hd => simp at hd
theorem c_Insert (l : List SubM) (x : SubM) (i : Nat) (hi : i ≤ l.length) (hl : l.length ≤ 1000000) :
    FCon Try.prog 148 [.osl 77 2 (l.map SubM.enc), .s (.int .i64 i), .osl 77 2 [x.enc]] (fun r o => r = .osl 77 2 ((insL l i x).map SubM.enc) ∧ o = [.un, .un, .un]) := by
  refine ⟨fun vs w => ?_, fun w g vs hS hu hlen hv => ?_⟩
  · have h1 := Try.func148
    have hname' : ¬ Try.f148.name = "runtime.NumGoroutine" := by decide
    have hbn : ¬ Try.f148.body = none := by decide
    simp [callFunc, h1, hname', hbn]
  · obtain ⟨v0, v1, v2, rfl⟩ : ∃ v0 v1 v2, vs = [v0, v1, v2] := by
      match vs, hlen with
      | [a, b, c], _ => exact ⟨a, b, c, rfl⟩
    have h0 : Rep g.S g.up w (some (.par 0 0)) (.osl 77 2 (l.map SubM.enc)) v0 := hv 0 _ v0 rfl rfl
    have h1 : Rep g.S g.up w (some (.par 1 0)) (.s (.int .i64 i)) v1 := hv 1 _ v1 rfl rfl
    have h2 : Rep g.S g.up w (some (.par 2 0)) (.osl 77 2 [x.enc]) v2 := hv 2 _ v2 rfl rfl
    have h1 := Rep.s_inv h1
    subst h1
    generalize hrx : [x.enc] = rx at h2
    cases h2 with
    | osl0 => cases hrx
    | @osl _ _ _ _ vb vc vs j1 j2 j3 j4 j5 j6 j7 =>
    subst hrx
    have hSh : ∀ b, g.S b → b < w.heap.size ∧ g.up b = none := fun b q => ⟨hS b q, by
      cases hq : g.up b with
      | none => rfl
      | some p => exact absurd q (hu b p hq).2⟩
    have hnew : ∀ (j : Nat), j < 2 → ∃ d, x.enc[j]? = some d ∧ Rep g.S g.up w (some (.cell vb j)) d (vs.getD j undef) := fun j hj => by
      have := enc_flat [x] vs g.S g.up w vb j7 0 (by simp) j hj
      simpa using this
    have hvs : ∀ j, j < 2 → vs[j]? = some (vs.getD j undef) := fun j hj => by
      have hj' : j < vs.size := by rw [j5]; simp at j3; omega
      rw [Array.getD_eq_getD_getElem?, Array.getElem?_eq_getElem hj']; rfl
    -- the slice that is given
    obtain ⟨base, n, c, cs, b, rfl, hn, hbase, hcm, hvb, hcell, hub⟩ : ∃ (base : Option Addr) (n c : Nat) (cs : Array Value) (b : Nat), v0 = .slice base n c ∧ n = l.length ∧ ((base = none ∧ n = 0 ∧ c = 0 ∧ cs = #[] ∧ b = w.heap.size) ∨ (base = some ⟨b, 0, none⟩ ∧ w.heap[b]? = some (.cells cs 77 (0, 0)) ∧ cs.size = c * 2 ∧ n ≤ c)) ∧ c ≤ maxLen ∧ vb ≠ b ∧
        (∀ (i j : Nat) (row : List D) (d : D), (l.map SubM.enc)[i]? = some row → row[j]? = some d → Rep g.S g.up w (some (.cell b (i * 2 + j))) d (cs.getD (i * 2 + j) undef)) ∧ (b < w.heap.size → g.up b = some (.par 0 0)) := by
      generalize hrl : l.map SubM.enc = rl at h0
      cases h0 with
      | osl0 =>
        have : l = [] := by simpa using hrl
        subst this
        exact ⟨none, 0, 0, #[], w.heap.size, rfl, rfl, .inl ⟨rfl, rfl, rfl, rfl, rfl⟩, Nat.zero_le _, fun e => (by have := (hu vb _ j1).1; omega), fun i j row d q => (by simp at q), fun q => absurd q (Nat.lt_irrefl _)⟩
      | @osl _ _ _ _ b c cs k1 k2 k3 k4 k5 k6 k7 =>
        have hlen : rl.length = l.length := by rw [← hrl, List.length_map]
        refine ⟨some ⟨b, 0, none⟩, rl.length, c, cs, b, rfl, hlen, .inr ⟨rfl, k2, k5, k3⟩, k4, fun e => ?_, k7, fun _ => k1⟩
        subst e
        rw [j1] at k1; injection k1 with k1; injection k1 with k1; cases k1
    have hcsl : ∀ q j, q < l.length → j < 2 → cs.toList[q * 2 + j]? = some (cs.getD (q * 2 + j) undef) := fun q j hq hj => by
      rcases hbase with ⟨-, q0, -⟩ | ⟨-, -, q3, q4⟩
      · omega
      · have hlt : q * 2 + j < cs.size := by omega
        rw [Array.getElem?_toList, Array.getD_eq_getD_getElem?, Array.getElem?_eq_getElem hlt]; rfl
    have hone : ∀ v ∈ cs.toList.take (n * 2), v.oneCell' = true := fun v hv' => by
      obtain ⟨m, hm, rfl⟩ := List.getElem_of_mem hv'
      have hm2 : m < n * 2 := by rw [List.length_take] at hm; simp only [Nat.min_def] at hm; split at hm <;> omega
      obtain ⟨d, q1, q2⟩ := enc_flat l cs g.S g.up w b hcell (m / 2) (by omega) (m % 2) (by omega)
      have e : m / 2 * 2 + m % 2 = m := by omega
      have q3 := hcsl (m / 2) (m % 2) (by omega) (by omega)
      rw [e] at q2 q3
      have q4 := q2.one
      rw [List.getElem_take]
      have hm3 : m < cs.toList.length := by rw [List.length_take] at hm; simp only [Nat.min_def] at hm; split at hm <;> omega
      rw [List.getElem?_eq_getElem hm3] at q3
      injection q3 with q3
      rw [q3]; exact q4
    obtain ⟨news, hnews⟩ : ∃ news, news = [vs.getD 0 undef, vs.getD 1 undef] := ⟨_, rfl⟩
    have hmain := ins_all w b vb n c vc i cs vs base (by omega) hbase hcm j2 hvb news (by rw [hnews]; rfl) (fun j v hj => by
      rw [hnews] at hj
      match j, hj with
      | 0, hj => have hj : vs.getD 0 undef = v := by simpa using hj
                 rw [hvs 0 (by omega), hj]
      | 1, hj => have hj : vs.getD 1 undef = v := by simpa using hj
                 rw [hvs 1 (by omega), hj]
      | j + 2, hj => simp at hj) (fun v hv' => by
      rw [hnews] at hv'
      obtain ⟨d0, -, q0⟩ := hnew 0 (by omega)
      obtain ⟨d1, -, q1⟩ := hnew 1 (by omega)
      simp only [List.mem_cons, List.not_mem_nil, or_false] at hv'
      rcases hv' with rfl | rfl
      · exact q0.one
      · exact q1.one) hone (by omega)
    refine hmain.mono ?_
    rintro e w' ⟨b', c', cs', rfl, m1, m2, m3, m4, m5, m6, m7, m8⟩
    have hother : ∀ b0, b0 < w.heap.size → g.up b0 = none → w'.heap[b0]? = w.heap[b0]? := fun b0 q1 q2 => m7 b0 q1 (fun e => by subst e; rw [hub q1] at q2; cases q2)
    let up' : Nat → Option Pos := fun b0 => if b0 = b' then some (.ans 0 0) else if b0 = b ∨ b0 = vb then none else g.up b0
    have hSm : ∀ b0, g.S b0 → g.S b0 ∧ w'.heap[b0]? = w.heap[b0]? := fun b0 q => ⟨q, hother b0 (hSh b0 q).1 (hSh b0 q).2⟩
    have hbs : b' < w'.heap.size := (Array.getElem?_eq_some_iff.1 m1).1
    refine ⟨_, ⟨g.β, g.κ, up', g.S⟩, .osl 77 2 ((insL l i x).map SubM.enc), [.un, .un, .un], rfl, m8, hother, fun _ q => q, fun _ _ q => .inl q, fun b0 q => Nat.lt_of_lt_of_le (hS b0 q) m8.size, fun b0 p hp => ?_, ⟨rfl, rfl⟩, ?_, fun j d u q1 q2 => ?_⟩
    · have hp : up' b0 = some p := hp
      simp only [up'] at hp
      by_cases hb0 : b0 = b'
      · subst hb0
        refine ⟨hbs, fun q => ?_, fun q => ?_⟩
        · rcases m6 with rfl | rfl
          · rw [hub q]; simp
          · omega
        · rcases m6 with rfl | rfl
          · have := hSh _ q; rw [hub this.1] at this; cases this.2
          · have := (hSh _ q).1; omega
      · rw [if_neg hb0] at hp
        split at hp
        · cases hp
        · have := hu b0 p hp
          exact ⟨Nat.lt_of_lt_of_le this.1 m8.size, fun _ => (by rw [hp]; simp), this.2⟩
    · show Rep g.S up' w' (some (.ans 0 0)) _ _
      have hlen : ((insL l i x).map SubM.enc).length = n + 1 := by
        rw [List.length_map]; simp only [insL, List.length_append, List.length_cons, List.length_take, List.length_drop, Nat.min_def]; split <;> omega
      rw [← hlen]
      refine Rep.osl cs' (by simp [up']) m1 (by rw [hlen]; exact m3) m4 m2 (fun q row hq => ?_) (fun q j row d hq hj => ?_)
      · rw [List.getElem?_map] at hq
        obtain ⟨y, -, rfl⟩ := Option.map_eq_some_iff.1 hq
        rfl
      · rw [List.getElem?_map] at hq
        obtain ⟨y, hy, rfl⟩ := Option.map_eq_some_iff.1 hq
        have hj2 : j < 2 := by have := (List.getElem?_eq_some_iff.1 hj).1; rwa [SubM.enc_len] at this
        have hcl : n * 2 ≤ cs.toList.length := by
          rcases hbase with ⟨-, q0, -⟩ | ⟨-, -, q3, q4⟩
          · omega
          · rw [Array.length_toList, q3]; omega
        have htl : (cs.toList.take (i * 2)).length = i * 2 := by rw [List.length_take]; simp only [Nat.min_def]; split <;> omega
        have hnl : news.length = 2 := by rw [hnews]; rfl
        rcases Nat.lt_trichotomy q i with hqi | hqi | hqi
        · have hy' : l[q]? = some y := by
            rw [insL, List.getElem?_append_left (by rw [List.length_take]; simp only [Nat.min_def]; split <;> omega), List.getElem?_take_of_lt hqi] at hy
            exact hy
          obtain ⟨hq1, hq2⟩ := List.getElem?_eq_some_iff.1 hy'
          obtain ⟨d', r1, r2⟩ := enc_flat l cs g.S g.up w b hcell q hq1 j hj2
          rw [hq2, hj] at r1; injection r1 with r1; subst r1
          have hv := m5 (q * 2 + j) _ (by
            rw [List.append_assoc, List.getElem?_append_left (by rw [htl]; omega), List.getElem?_take_of_lt (by omega)]
            exact hcsl q j hq1 hj2)
          rw [hv]
          exact enc_move hSm hj r2 _
        · subst hqi
          have hy' : x = y := by
            rw [insL, List.getElem?_append_right (by rw [List.length_take]; simp only [Nat.min_def]; split <;> omega), List.length_take, Nat.min_eq_left (by omega), Nat.sub_self] at hy
            simpa using hy
          subst hy'
          obtain ⟨d', r1, r2⟩ := hnew j hj2
          rw [hj] at r1; injection r1 with r1; subst r1
          have hv := m5 (q * 2 + j) (vs.getD j undef) (by
            rw [List.append_assoc, List.getElem?_append_right (by rw [htl]; omega), htl, List.getElem?_append_left (by rw [hnl]; omega), Nat.add_sub_cancel_left, hnews]
            match j, hj2 with
            | 0, _ => rfl
            | 1, _ => rfl)
          rw [hv]
          exact enc_move hSm hj r2 _
        · have hy' : l[q - 1]? = some y := by
            rw [insL, List.getElem?_append_right (by rw [List.length_take]; simp only [Nat.min_def]; split <;> omega), List.length_take, Nat.min_eq_left (by omega), show q - i = (q - 1 - i) + 1 by omega, List.getElem?_cons_succ, List.getElem?_drop] at hy
            rwa [show i + (q - 1 - i) = q - 1 by omega] at hy
          obtain ⟨hq1, hq2⟩ := List.getElem?_eq_some_iff.1 hy'
          obtain ⟨d', r1, r2⟩ := enc_flat l cs g.S g.up w b hcell (q - 1) hq1 j hj2
          rw [hq2, hj] at r1; injection r1 with r1; subst r1
          have hv := m5 (q * 2 + j) _ (by
            rw [List.append_assoc, List.getElem?_append_right (by rw [htl]; omega), htl, List.getElem?_append_right (by rw [hnl]; omega), hnl, List.getElem?_take_of_lt (by omega), List.getElem?_drop, show i * 2 + (q * 2 + j - i * 2 - 2) = (q - 1) * 2 + j by omega]
            exact hcsl (q - 1) j hq1 hj2)
          rw [hv]
          exact enc_move hSm hj r2 _
    · match j, q1 with
      | 0, q1 => have q1 : D.un = d := by simpa using q1
                 subst q1; trivial
      | 1, q1 => have q1 : D.un = d := by simpa using q1
                 subst q1; trivial
      | 2, q1 => have q1 : D.un = d := by simpa using q1
                 subst q1; trivial
      | j + 3, q1 => simp at q1
end Go.Proofs.Ytngobmjdbjlkcaa
