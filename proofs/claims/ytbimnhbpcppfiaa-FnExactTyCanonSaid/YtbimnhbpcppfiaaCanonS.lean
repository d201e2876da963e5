/- The canonical type: the reference's text. -/
import Derived.Test.YtbimnhbpcppfiaaCanon
import Derived.Test.YtbimnhbpcppfiaaGrow
namespace Go.Proofs.Ytbimnhbpcppfiaa
set_option linter.unusedVariables false
set_option linter.unusedSimpArgs false
open Go.RowKit
def canonT (xs : List TyI) (i : Nat) : List TyI := (List.range i).map (canonJ xs)
theorem canonT_succ (xs : List TyI) (i : Nat) : canonT xs (i + 1) = canonT xs i ++ [canonJ xs i] := by unfold canonT; rw [List.range_succ, List.map_append]; rfl
theorem canonT_len (xs : List TyI) (i : Nat) : (canonT xs i).length = i := by simp [canonT]
theorem canonJ_old (xs : List TyI) (i : Nat) (h : i < xs.length) (hb : varB xs[i] = true) (hm : xs[i].v ∈ varsM (xs.take i)) : canonJ xs i = ⟨(idxN (varsM (xs.take i)) xs[i].v : Nat), xs[i].name, xs[i].ar⟩ := by
  rw [canonJ_at xs i h, canonI_old xs i h, varsM_take xs i h, canonI_seen hb hm]
theorem canonJ_new (xs : List TyI) (i : Nat) (h : i < xs.length) (hb : varB xs[i] = true) (hm : xs[i].v ∉ varsM (xs.take i)) : canonJ xs i = ⟨((varsM (xs.take i)).length : Nat), xs[i].name, xs[i].ar⟩ := by
  rw [canonJ_at xs i h, canonI_old xs i h, varsM_take xs i h, canonI_new hb hm]
theorem canonJ_con (xs : List TyI) (i : Nat) (h : i < xs.length) (hb : varB xs[i] = false) : canonJ xs i = xs[i] := by
  rw [canonJ_at xs i h, canonI_con _ hb]
/-- the reference's memory while it renames: i items are laid. -/
structure CS (w : World) (h : Hp) (sv ov bv : Value) (L : List Int) (i : Nat) (os : List Value) (W : World) : Prop where
  sv : OwnInt W (w.heap.size + 2) sv L
  ov : Own W (w.heap.size + 2) 58 3 ov i os
  b1 : BoxAt W (w.heap.size + 1) #[.slice none 0 0] 28
  b3 : BoxAt W (w.heap.size + 3) #[bv] 28
  sub : Sub h W
  bel : Below w.heap.size w W
theorem CS.lo {w : World} {h : Hp} {sv ov bv : Value} {L : List Int} {i : Nat} {os : List Value} {W : World} (q : CS w h sv ov bv L i os W) : w.heap.size + 2 ≤ W.heap.size := by have := q.b3.lt; omega
theorem CS.alloc {w : World} {h : Hp} {sv ov bv : Value} {L : List Int} {i : Nat} {os : List Value} {W : World} (q : CS w h sv ov bv L i os W) (o : Obj) : CS w h sv ov bv L i os (W.alloc o) :=
  ⟨World.ownsRow.alloc q.sv o, World.ownsRow.alloc q.ov o, q.b1.alloc o, q.b3.alloc o, q.sub.alloc o, q.bel.alloc (by have := q.lo; omega) o⟩
theorem CS.drewN {w : World} {h : Hp} {sv ov bv : Value} {L : List Int} {i : Nat} {os : List Value} {W : World} (q : CS w h sv ov bv L i os W) (n : Nat) : CS w h sv ov bv L i os (W.drewN n) :=
  ⟨q.sv, q.ov, q.b1, q.b3, q.sub, below_drewN q.bel n⟩
/-- a cell of another block is set. -/
theorem CS.set {w : World} {h : Hp} {sv ov bv : Value} {L : List Int} {i : Nat} {os : List Value} {W : World} (q : CS w h sv ov bv L i os W) (hs : Sub h w) {b o : Nat} {cs : Array Value} {t : TypeId} (hb : BoxAt W b cs t) (h0 : w.heap.size ≤ b) (h1 : b ≠ w.heap.size + 1) (h3 : b ≠ w.heap.size + 3) (hi : 3 ≠ t) (hy : 58 ≠ t ∨ ∀ g, ov.ownBlock = some g → g ≠ b) (u : Value) : CS w h sv ov bv L i os (W.setCell ⟨b, o, none⟩ u) := by
  have hf : Fr [b] W (W.setCell ⟨b, o, none⟩ u) := (Fr.refl _ _).setCell (by simp) _
  refine ⟨own_fr q.sv hf (fun c hc => ?_), own_fr q.ov hf (fun c hc => ?_), q.b1.setOther (by show w.heap.size + 1 ≠ b; omega) _, q.b3.setOther (by show w.heap.size + 3 ≠ b; omega) _, q.sub.setCell (hs.none h0) _, q.bel.setCell h0 _⟩
  · obtain rfl : c = b := by simpa using hc
    exact fun e => BoxAt.apart hb q.sv hi (by simp [e])
  · obtain rfl : c = b := by simpa using hc
    rcases hy with hy | hy
    · exact fun e => BoxAt.apart hb q.ov hy (by simp [e])
    · exact fun e => hy _ e rfl
/-- an item has been appended, and is not yet in the variable. -/
theorem CS.app {w : World} {h : Hp} {sv ov bv nv : Value} {L : List Int} {i : Nat} {os ns : List Value} {W W' : World} (q : CS w h sv ov bv L i os W) (hs : Sub h w) (ho : Own W' (w.heap.size + 2) 58 3 nv (i + 1) (os ++ ns)) (hf : Fr ov.ownBlock.toList W W') : CS w h sv nv bv L (i + 1) (os ++ ns) W' :=
  ⟨own_fr q.sv hf (own_apart q.sv q.ov (by decide)), ho, q.b1.fr hf (BoxAt.apart q.b1 q.ov (by decide)), q.b3.fr hf (BoxAt.apart q.b3 q.ov (by decide)), q.sub.fr hf (fun b hb => hs.none (by have := (own_block q.ov (by simpa using hb)).1; omega)), q.bel.trans ((own_fr_below q.ov hf q.lo).mono (by omega))⟩
/-- a variable has been appended to those seen. -/
theorem CS.see {w : World} {h : Hp} {sv ov bv nv : Value} {L : List Int} {x : Int} {i : Nat} {os : List Value} {W W' : World} (q : CS w h sv ov bv L i os W) (hs : Sub h w) (ho : Own W' (w.heap.size + 2) 3 1 nv (L.length + 1) (L.map (Value.int .i64) ++ [.int .i64 x])) (hf : Fr sv.ownBlock.toList W W') : CS w h nv ov bv (L ++ [x]) i os W' :=
  ⟨by unfold OwnInt; rw [List.length_append, List.map_append]; exact ho, own_fr q.ov hf (own_apart q.ov q.sv (by decide)), q.b1.fr hf (BoxAt.apart q.b1 q.sv (by decide)), q.b3.fr hf (BoxAt.apart q.b3 q.sv (by decide)), q.sub.fr hf (fun b hb => hs.none (by have := (own_block q.sv (by simpa using hb)).1; omega)), q.bel.trans ((own_fr_below q.sv hf q.lo).mono (by omega))⟩
/-- the variable has it. -/
theorem CS.step {w : World} {h : Hp} {sv ov bv : Value} {xs : List TyI} {L : List Int} {i : Nat} {x : TyI} {a b c : Value} {W : World} (q : CS w h sv ov bv L (i + 1) ((canonT xs i).flatMap TyI.cells ++ [a, b, c]) W) (hs : Sub h w) (hlt : i < xs.length) (hL : varsM (xs.take (i + 1)) = L) (hJ : canonJ xs i = x) {p : Addr} (hp : p = ⟨w.heap.size + 3, 0, none⟩) (hx : TyI.cells x = [a, b, c]) :
    CS w h sv ov ov (varsM (xs.take (i + 1))) (i + 1) ((canonT xs (i + 1)).flatMap TyI.cells) (W.setCell p ov) := by
  subst hp
  have hf : Fr [w.heap.size + 3] W (W.setCell ⟨w.heap.size + 3, 0, none⟩ ov) := (Fr.refl _ _).setCell (by simp) _
  have e : (canonT xs (i + 1)).flatMap TyI.cells = (canonT xs i).flatMap TyI.cells ++ [a, b, c] := by
    rw [canonT_succ, List.flatMap_append, hJ, ← hx]; simp
  rw [e, hL]
  refine ⟨own_fr q.sv hf (fun c hc => ?_), own_fr q.ov hf (fun c hc => ?_), q.b1.setOther (by simp) _, q.b3.set 0 ov, q.sub.setCell (hs.none (by show w.heap.size ≤ w.heap.size + 3; omega)) _, q.bel.setCell (by show w.heap.size ≤ w.heap.size + 3; omega) _⟩
  · obtain rfl : c = w.heap.size + 3 := by simpa using hc
    exact fun e => BoxAt.apart q.b3 q.sv (by decide) (by simp [e])
  · obtain rfl : c = w.heap.size + 3 := by simpa using hc
    exact fun e => BoxAt.apart q.b3 q.ov (by decide) (by simp [e])
set_option maxRecDepth 100000 in
set_option maxHeartbeats 4000000 in
theorem spec_l05Canon (w : World) (h : Hp) (hs : Sub h w) (v : Value) (xs : List TyI) (hv : TyS h v xs) (hne : 0 < xs.length) (hl : xs.length ≤ 100000000) :
    Calls Try.prog 70 #[.agg #[v]] w fun e w' => canonPost w (canonM xs) e w' := by
  have hm := Lib.hid hv.mem
  have HV := Lib.hid hv
  obtain ⟨a, c, rfl, hc1, hc2, -⟩ := hv
  unfold maxLen at hc2
  go_enter Try.func70, Try.ntmps70
  go_wp2_with fail
  generalize hW : ((((w.alloc (.cells #[.slice a xs.length c] 28)).alloc (.cells #[.slice none 0 0] 28)).alloc (.cells #[] 3)).alloc (.cells #[.slice none 0 0] 28)) = W0
  have hz0 : W0.heap.size = w.heap.size + 4 := by rw [← hW]; simp
  have q1 : BoxAt W0 (w.heap.size + 1) #[.slice none 0 0] 28 := by
    rw [← hW]
    have := BoxAt.new (w.alloc (.cells #[.slice a xs.length c] 28)) #[.slice none 0 0] 28
    simp at this
    exact (this.alloc _).alloc _
  have q3 : BoxAt W0 (w.heap.size + 3) #[.slice none 0 0] 28 := by
    rw [← hW]
    have := BoxAt.new (((w.alloc (.cells #[.slice a xs.length c] 28)).alloc (.cells #[.slice none 0 0] 28)).alloc (.cells #[] 3)) #[.slice none 0 0] 28
    simpa using this
  have q2 : OwnInt W0 (w.heap.size + 2) (.slice (some ⟨w.heap.size + 1 + 1, 0, none⟩) 0 0) [] := by
    rw [← hW]
    have := own_made ((w.alloc (.cells #[.slice a xs.length c] 28)).alloc (.cells #[.slice none 0 0] 28)) (w.heap.size + 2) (by simp) 3 1 0 [] rfl (by decide)
    simp at this
    exact World.ownsRow.alloc this _
  have qs : Sub h W0 := by rw [← hW]; exact (((hs.alloc _).alloc _).alloc _).alloc _
  have qb : Below w.heap.size w W0 := by rw [← hW]; exact (by repeat (first | with_reducible exact Below.refl _ _ | with_reducible assumption | with_reducible refine Below.setCell ?_ ?_ _ | with_reducible refine Below.alloc ?_ ?_ _ | with_reducible refine Below.drew ?_ | (with_reducible apply below_chain; with_reducible assumption) | exact Nat.le_refl _ | omega | (simp <;> omega)))
  have Q1 := Lib.hid q1
  have Q2 := Lib.hid q2
  have Q3 := Lib.hid q3
  clear hW q1 q2 q3
  go_loopw [3, 13] (fun sv iv wr => ∃ (i : Nat) (sv' ov : Value), i ≤ xs.length ∧ iv = .int .i64 i ∧ sv = sv' ∧ CS w h sv' ov ov (varsM (xs.take i)) i ((canonT xs i).flatMap TyI.cells) wr) (fun _ iv _ => xs.length - (intOf iv).toNat)
  case atStart => exact ⟨0, _, .slice none 0 0, by omega, rfl, rfl, ⟨Q2.out, World.ownsRow_nil _ _ _ _, Q1.out, Q3.out, qs, qb⟩⟩
  case round =>
    obtain ⟨i, sv, ov, hi, rfl, rfl, hcs⟩ := hrel
    have hz := hcs.b3.lt
    have hvl := varsM_len xs i hi
    obtain ⟨sa, sc, rfl, hsc1, hsc2⟩ := own_len hcs.sv
    unfold maxLen at hsc2
    have d3 := hcs.b3.cell 0
    by_cases hlt : i < xs.length
    · obtain ⟨bl, off, rfl, hcell⟩ := HV.out.cell hlt
      obtain ⟨c0, c1, c2⟩ := hcell i hlt wr hcs.sub
      have HT := Lib.hid (varsM_take xs i hlt)
      have HCS := Lib.hid (hcs.alloc (.cells #[.int .i64 xs[i].v, .string xs[i].name, .int .i64 xs[i].ar] 58))
      have HC0 := Lib.hid hcs
      have HX := Lib.hid (hm.out _ (List.getElem_mem hlt)).1
      clear hcell hcs
      cases hE : xs[i].name.toList.isEmpty
      · have HJ := Lib.hid (canonJ_con xs i hlt hE)
        have HSt := Lib.hid (varsStep_old (seen := varsM (xs.take i)) (x := xs[i]) (fun q => by unfold varB at q; rw [hE] at q; cases q))
        go_wp2_with (first | (at_builtin; go_loud (refine app_lit_fr (k := 3) (bytes := 32) Try.underlying26 info_TyItem rfl (by decide) (wr.alloc (.cells #[.int .i64 xs[i].v, .string xs[i].name, .int .i64 xs[i].ar] 58)) (wr.heap.size + 1) (by simp) rfl _ _ rfl (w.heap.size + 2) ov i ((canonT xs i).flatMap TyI.cells) rfl HCS.out.ov 1 [.int .i64 (xs[i].v), .string xs[i].name, .int .i64 xs[i].ar] rfl [.int .i64 (xs[i].v), .string xs[i].name, .int .i64 xs[i].ar] rfl rfl ?_ ?_ ?_ ?_ ?_)))
        · intro u hu
          simp only [List.mem_cons, List.not_mem_nil, or_false] at hu
          rcases hu with rfl | rfl | rfl <;> rfl
        · unfold maxLen; omega
        · omega
        · exact HCS.out.lo
        · intro v' w' hown' hf'
          obtain ⟨na, nc, rfl, -⟩ := own_len hown'
          have HN' := Lib.hid (HCS.out.app hs hown' hf')
          have d3 := HN'.out.b3.cell 0
          have f3 := HN'.out.b3.frozen 0
          clear hown' hf'
          go_wp2_with fail
          exact ⟨⟨i + 1, .slice sa (varsM (xs.take i)).length sc, .slice na (i + 1) nc, by omega, by go_num, rfl, HN'.out.step hs hlt (HT.out.trans HSt.out) HJ.out rfl rfl⟩, by simp [intOf]; omega⟩
      · have HB := Lib.hid (show varB xs[i] = true from hE)
        have HBX := Lib.hid (BoxAt.new wr #[.int .i64 xs[i].v, .string xs[i].name, .int .i64 xs[i].ar] 58)
        have hzx : (wr.alloc (.cells #[.int .i64 xs[i].v, .string xs[i].name, .int .i64 xs[i].ar] 58)).heap.size = wr.heap.size + 1 := by simp
        have HVm := Lib.hid (varsM_I64 (take_mem hm.out i))
        generalize hL : varsM (List.take i xs) = L at HCS HC0 HVm hvl hsc1 HT ⊢
        have HLL := Lib.hid hL.symm
        clear hL
        go_wp2_with fail
        rename World => wo
        go_loopw [7] (fun jv wj => ∃ j : Nat, jv = .int .i64 j ∧ j ≤ L.length ∧ (∀ q (hq : q < L.length), q < j → L[q] ≠ xs[i].v) ∧ ∃ m, wj = (wo.alloc (.cells #[.int .i64 xs[i].v, .string xs[i].name, .int .i64 xs[i].ar] 58)).drewN m) (fun jv _ => L.length - (intOf jv).toNat)
        case atStart => exact ⟨0, rfl, by omega, fun _ _ q => by omega, 0, rfl⟩
        case round =>
          obtain ⟨j, rfl, hj, hno, hw⟩ := hrel
          have HNo := Lib.hid hno
          have HCj := Lib.hid (show CS w h (.slice sa L.length sc) ov ov L i ((canonT xs i).flatMap TyI.cells) wr by obtain ⟨m, rfl⟩ := hw; exact HCS.out.drewN m)
          have HBj := Lib.hid (show BoxAt wr wo.heap.size #[.int .i64 xs[i].v, .string xs[i].name, .int .i64 xs[i].ar] 58 by obtain ⟨m, rfl⟩ := hw; exact HBX.out)
          have hzj : wr.heap.size = wo.heap.size + 1 := by obtain ⟨m, rfl⟩ := hw; exact hzx
          have HW := Lib.hid hw
          have HOb := Lib.hid (fun (g : Nat) (hg : ov.ownBlock = some g) => show g ≠ wo.heap.size by have := (own_block HC0.out.ov hg).2.1; omega)
          have e3 : wr.cell? ⟨w.heap.size + 1 + 1 + 1, 0, none⟩ = some ov := HCj.out.b3.cell 0
          have b1 : wr.cell? ⟨wo.heap.size, 1, none⟩ = some (.string xs[i].name) := HBj.out.cell 1
          have b2 : wr.cell? ⟨wo.heap.size, 2, none⟩ = some (.int .i64 xs[i].ar) := HBj.out.cell 2
          have bf := HBj.out.frozen 0
          have b0 : wr.cell? ⟨wo.heap.size, 0, none⟩ = some (.int .i64 xs[i].v) := HBj.out.cell 0
          clear hno hw
          by_cases hjl : j < L.length
          · have hread := OwnInt.read HCj.out.sv HVm.out (hp wr) (fun _ _ => rfl)
            obtain ⟨sb, so, e1, hsc⟩ := hread.cell hjl
            subst e1
            have e0 := hsc j hjl wr (Sub.self wr)
            have j1 : decide (j < L.length) = true := decide_eq_true hjl
            clear hsc hread
            by_cases hx : L[j] = xs[i].v
            · have hx' : (L[j] == xs[i].v) = true := by simpa using hx
              have hMem : xs[i].v ∈ L := by rw [← hx]; exact List.getElem_mem hjl
              have hIdx : idxN L xs[i].v = j := idxN_at L _ j hjl hx (fun q hq => HNo.out q (by omega) hq)
              have HJ := Lib.hid (canonJ_old xs i hlt HB.out (by rw [← HLL.out]; exact hMem))
              rw [← HLL.out, hIdx] at HJ
              have HSt := Lib.hid (varsStep_old (seen := L) (x := xs[i]) (fun _ => hMem))
              have j2 : ((j : Int) == (L.length : Int)) = false := by simpa using (show ¬ (j : Int) = L.length by omega)
              clear hMem hIdx hx
              go_wp2_with fail
              go_quiet (fail)
              have HCT := Lib.hid ((HCj.out.drewN nq).set hs (b := wo.heap.size) (o := 0) HBj.out (by omega) (by omega) (by omega) (by decide) (.inr HOb.out) (.int .i64 j))
              have zz : ((wr.drewN nq).setCell ⟨wo.heap.size, 0, none⟩ (.int .i64 j)).heap.size = wo.heap.size + 1 := by simp [hzj]
              go_wp2_with (first | (at_builtin; go_loud (refine app_lit_fr (k := 3) (bytes := 32) Try.underlying26 info_TyItem rfl (by decide) ((wr.drewN nq).setCell ⟨wo.heap.size, 0, none⟩ (.int .i64 j)) (wo.heap.size + 1) zz rfl _ _ rfl (w.heap.size + 2) ov i ((canonT xs i).flatMap TyI.cells) rfl HCT.out.ov 1 [.int .i64 (j), .string xs[i].name, .int .i64 xs[i].ar] rfl [.int .i64 (j), .string xs[i].name, .int .i64 xs[i].ar] rfl rfl ?_ ?_ ?_ ?_ ?_)))
              · intro u hu
                simp only [List.mem_cons, List.not_mem_nil, or_false] at hu
                rcases hu with rfl | rfl | rfl <;> rfl
              · unfold maxLen; omega
              · omega
              · exact HCT.out.lo
              · intro v' w' hown' hf'
                obtain ⟨na, nc, rfl, -⟩ := own_len hown'
                have HN' := Lib.hid (HCT.out.app hs hown' hf')
                have d3 := HN'.out.b3.cell 0
                have f3 := HN'.out.b3.frozen 0
                clear hown' hf'
                go_wp2_with fail
                exact ⟨⟨i + 1, .slice (some ⟨sb, so, none⟩) L.length sc, .slice na (i + 1) nc, by omega, by go_num, rfl, HN'.out.step hs hlt (HT.out.trans HSt.out) HJ.out rfl rfl⟩, by simp [intOf]; omega⟩
            · have hx' : (L[j] == xs[i].v) = false := by simpa using hx
              have HX' := Lib.hid hx
              clear hx
              go_wp2_with fail
              go_quiet (fail)
              go_wp2_with fail
              go_roundw
              case rel =>
                refine ⟨j + 1, by go_num, by omega, fun q hq hlt' => ?_, ?_⟩
                · by_cases e : q = j
                  · subst e; exact HX'.out
                  · exact HNo.out q hq (by omega)
                · obtain ⟨m, rfl⟩ := HW.out
                  exact ⟨m + nq, by rw [World.drewN_drewN]⟩
              case measure => simp [intOf]; omega
          · obtain rfl : j = L.length := by omega
            have j1 : decide (L.length < L.length) = false := decide_eq_false (by omega)
            have hno2 : xs[i].v ∉ L := fun hm => by
              obtain ⟨q, hq, e⟩ := List.getElem_of_mem hm
              exact HNo.out q hq hq e
            have HJ := Lib.hid (canonJ_new xs i hlt HB.out (by rw [← HLL.out]; exact hno2))
            rw [← HLL.out] at HJ
            have HSt := Lib.hid (varsStep_new (seen := L) (x := xs[i]) HB.out hno2)
            clear hno2
            go_wp2_with fail
            go_quiet (fail)
            have z1 : (wr.drewN nq).heap.size = wo.heap.size + 1 := by simp [hzj]
            have HSv := Lib.hid (HCj.out.drewN nq)
            go_wp2_with (first | (at_builtin; go_loud (refine app_lit_fr (k := 1) (bytes := 8) Try.underlying89 info_int rfl Nat.one_pos (wr.drewN nq) (wo.heap.size + 1) z1 rfl _ _ rfl (w.heap.size + 2) (.slice sa L.length sc) L.length (L.map (Value.int .i64)) rfl HSv.out.sv 1 [.int .i64 xs[i].v] rfl [.int .i64 xs[i].v] rfl rfl ?_ ?_ ?_ ?_ ?_)))
            · intro u hu
              obtain rfl : u = .int .i64 xs[i].v := by simpa using hu
              rfl
            · unfold maxLen; omega
            · omega
            · exact HSv.out.lo
            · intro v1 w1 hown1 hf1
              obtain ⟨ma, mc, rfl, -⟩ := own_len hown1
              have hw1 := hf1.size
              have HC1 := Lib.hid (HSv.out.see hs hown1 hf1)
              have HBw := Lib.hid (BoxAt.fr (w := wr.drewN nq) HBj.out hf1 (BoxAt.apart (w := wr.drewN nq) HBj.out HSv.out.sv (by decide)))
              have HOw := Lib.hid (show ∀ g, ov.ownBlock = some g → g ≠ wo.heap.size from HOb.out)
              have e3 : w1.cell? ⟨w.heap.size + 1 + 1 + 1, 0, none⟩ = some ov := HC1.out.b3.cell 0
              have b1 : w1.cell? ⟨wo.heap.size, 1, none⟩ = some (.string xs[i].name) := HBw.out.cell 1
              have b2 : w1.cell? ⟨wo.heap.size, 2, none⟩ = some (.int .i64 xs[i].ar) := HBw.out.cell 2
              have bf := HBw.out.frozen 0
              have b0 : w1.cell? ⟨wo.heap.size, 0, none⟩ = some (.int .i64 xs[i].v) := HBw.out.cell 0
              have HCT := Lib.hid (HC1.out.set hs (b := wo.heap.size) (o := 0) HBw.out (by omega) (by omega) (by omega) (by decide) (.inr HOw.out) (.int .i64 L.length))
              have zz : (w1.setCell ⟨wo.heap.size, 0, none⟩ (.int .i64 L.length)).heap.size = w1.heap.size := by simp
              clear hown1 hf1
              go_wp2_with (first | (at_builtin; go_loud (refine app_lit_fr (k := 3) (bytes := 32) Try.underlying26 info_TyItem rfl (by decide) (w1.setCell ⟨wo.heap.size, 0, none⟩ (.int .i64 L.length)) (w1.heap.size) zz rfl _ _ rfl (w.heap.size + 2) ov i ((canonT xs i).flatMap TyI.cells) rfl HCT.out.ov 1 [.int .i64 (L.length), .string xs[i].name, .int .i64 xs[i].ar] rfl [.int .i64 (L.length), .string xs[i].name, .int .i64 xs[i].ar] rfl rfl ?_ ?_ ?_ ?_ ?_)))
              · intro u hu
                simp only [List.mem_cons, List.not_mem_nil, or_false] at hu
                rcases hu with rfl | rfl | rfl <;> rfl
              · unfold maxLen; omega
              · omega
              · exact HCT.out.lo
              · intro v' w' hown' hf'
                obtain ⟨na, nc, rfl, -⟩ := own_len hown'
                have HN' := Lib.hid (HCT.out.app hs hown' hf')
                have d3 := HN'.out.b3.cell 0
                have f3 := HN'.out.b3.frozen 0
                clear hown' hf'
                go_wp2_with fail
                exact ⟨⟨i + 1, .slice ma (L.length + 1) mc, .slice na (i + 1) nc, by omega, by go_num, rfl, HN'.out.step hs hlt (HT.out.trans HSt.out) HJ.out rfl rfl⟩, by simp [intOf]; omega⟩
    · obtain rfl : i = xs.length := by omega
      have HC := Lib.hid hcs
      have d1 := hcs.b1.cell 0
      have f1 := hcs.b1.frozen 0
      have hbw := hcs.bel
      obtain ⟨oa, oc, rfl, -⟩ := own_len hcs.ov
      clear hcs
      go_wp2_with fail
      refine bodyPost_ret (v := .agg #[.slice oa xs.length oc]) (by simp [results, Try.results70, go_sem, d1, d3]) rfl ⟨_, rfl, ?_, ?_⟩
      · have hq := HC.out.ov
        unfold canonT at hq
        rw [canonJ_all] at hq
        rw [canonM_len]
        exact own_weak (own_fr hq ((Fr.refl _ _).setCell (bs := [w.heap.size + 1]) (by simp) _) (fun b hb => by
          obtain rfl : b = w.heap.size + 1 := by simpa using hb
          exact fun e => BoxAt.apart HC.out.b1 hq (by decide) (by simp [e]))) (by omega)
      · exact (by repeat (first | with_reducible exact Below.refl _ _ | with_reducible assumption | with_reducible refine Below.setCell ?_ ?_ _ | with_reducible refine Below.alloc ?_ ?_ _ | with_reducible refine Below.drew ?_ | (with_reducible apply below_chain; with_reducible assumption) | exact Nat.le_refl _ | omega | (simp <;> omega)))
end Go.Proofs.Ytbimnhbpcppfiaa
