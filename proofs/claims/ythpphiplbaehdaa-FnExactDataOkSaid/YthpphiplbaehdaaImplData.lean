/- DataOk: the program's text. -/
import Derived.Test.YthpphiplbaehdaaNodeData
namespace Go.Proofs.Ythpphiplbaehdaa
set_option linter.unusedVariables false
set_option linter.unusedSimpArgs false
open Go.RowKit
/-- all children lie among n nodes. -/
def kidsIn (ks : List (List Int)) (n : Nat) : Prop := ∀ k (h : k < ks.length), ∀ z ∈ ks[k], ∃ m : Nat, z = (m : Int) ∧ m < n
/-- pKids goes through only what lies within. -/
theorem pKids_in (ks : List (List Int)) (n : Nat) : ∀ (l : List Int) (m e : Nat), pKids (pEnd ks n) l m = some e → ∀ z ∈ l, ∃ q : Nat, z = (q : Int) ∧ q < ks.length
  | [], m, e, h, z, hz => by cases hz
  | k :: l, m, e, h, z, hz => by
    rw [pKids_cons] at h
    cases hc : walkR ks n k m with
    | none => rw [hc] at h; cases h
    | some e1 =>
      rw [hc] at h
      have hb := walkR_bd hc
      rcases List.mem_cons.1 hz with rfl | hz
      · exact ⟨m, hb.1, by omega⟩
      · exact pKids_in ks n l e1 e h z hz
/-- whatever a walk passes has its children within. -/
theorem pEnd_in (ks : List (List Int)) : ∀ (n m e : Nat), pEnd ks n m = some e → ∀ k (h : k < ks.length), m ≤ k → k < e → ∀ z ∈ ks[k], ∃ q : Nat, z = (q : Int) ∧ q < ks.length
  | 0, m, e, h => by cases h
  | n + 1, m, e, h => by
    intro k hk h1 h2 z hz
    have hm : m < ks.length := by
      rcases Nat.lt_or_ge m ks.length with q | q
      · exact q
      · rw [pEnd_out _ _ _ q] at h; cases h
    rw [pEnd_at _ _ _ hm] at h
    by_cases hkm : k = m
    · subst hkm
      exact pKids_in ks n _ _ _ h z hz
    · have key : ∀ (l : List Int) (m e : Nat), pKids (pEnd ks n) l m = some e → m ≤ k → k < e → ∃ q : Nat, z = (q : Int) ∧ q < ks.length := by
        intro l
        induction l with
        | nil =>
          intro m e h a b
          have h' : some m = some e := h
          injection h' with h'; omega
        | cons k0 l ih =>
          intro m e h a b
          rw [pKids_cons] at h
          cases hc : walkR ks n k0 m with
          | none => rw [hc] at h; cases h
          | some e1 =>
            rw [hc] at h
            have hb := walkR_bd hc
            by_cases hke : k < e1
            · unfold walkR at hc
              rw [if_pos hb.1] at hc
              exact pEnd_in ks n m e1 hc k hk a hke z hz
            · exact ih e1 e h (by omega) b
      exact key _ _ _ h (by omega) h2
theorem order_in {xs : List DDNode} (h : orderM (kidsOf xs) = true) (k : Nat) (hk : k < xs.length) (h1 : xs[k].kids.length = 1) : ∃ q : Nat, xs[k].kids[0]'(by omega) = (q : Int) ∧ q < xs.length := by
  unfold orderM at h
  have he : pEnd (kidsOf xs) (kidsOf xs).length 0 = some (kidsOf xs).length := by simpa using h
  have := pEnd_in (kidsOf xs) _ _ _ he k (by rw [kids_len]; exact hk) (Nat.zero_le _) (by rw [kids_len]; exact hk) (xs[k].kids[0]'(by omega)) (by rw [kids_at xs k hk]; exact List.getElem_mem _)
  rw [kids_len] at this
  exact this
theorem impl_DataOk_2 (w : World) (h : Hp) (hs : Sub h w) (v : Value) (xs : List DDNode) (hv : DDNodeS h v xs) (hl : xs.length ≤ 1000000000) (B : Nat) (hB : w.cell? ⟨B, 0, none⟩ = some v) (x : DDNode) (hx : dNodeOk x) (vx : Value) (hvx : IntS h vx x.kids) (hkl : x.kids.length ≤ 1000000000)
    (hin : ∀ h1 : x.kids.length = 1, ∃ k : Nat, x.kids[0]'(by omega) = (k : Int) ∧ k < xs.length) :
    Calls Try.prog 89 #[.agg #[.int .i64 x.kind, .int .i64 x.n, .string x.s, vx], .pointer (some ⟨B, 0, none⟩)] w fun e w' => e = .returned (.bool (!dnodeM xs x)) ∧ Below w.heap.size w w' := by
  have hlt : B < w.heap.size := World.block_lt_of_cell? _ _ hB
  have HK := Lib.hid (fun (w : World) (hs : Sub h w) => impl_dataNodeOk w h hs v xs hv hl x hx vx hvx hkl hin)
  clear hin hv hvx
  cases hb : dnodeM xs x
  all_goals
    have HB := Lib.hid hb
    go_enter Try.func89, Try.ntmps89
    go_wp2_with fail
    refine (HK.out _ (hs.alloc _)).mono ?_
    rw [HB.out]
    rintro e w1 ⟨rfl, hb1⟩
    go_wp2_with fail
    go_ret
    exact ⟨rfl, (by repeat (first | with_reducible exact Below.refl _ _ | with_reducible assumption | with_reducible refine Below.setCell ?_ ?_ _ | with_reducible refine Below.alloc ?_ ?_ _ | with_reducible refine Below.drew ?_ | (with_reducible apply below_chain; with_reducible assumption) | exact Nat.le_refl _ | omega | (simp <;> omega)))⟩
def AnyQ (b : Bool) (e : Ending) : Prop := ∃ r : Int, e = .returned (.int .i64 r) ∧ decide (0 ≤ r) = b
set_option maxRecDepth 100000 in
set_option maxHeartbeats 2000000 in
theorem data_IndexFunc (w : World) (h : Hp) (hs : Sub h w) (v : Value) (xs : List DDNode) (hv : DDNodeS h v xs) (hl : xs.length ≤ 1000000000) (hks : ∀ k (h : k < xs.length), xs[k].kids.length ≤ 1000000000) (B : Nat) (hB : w.cell? ⟨B, 0, none⟩ = some v) (ho : orderM (kidsOf xs) = true) :
    Calls Try.prog 149 #[v, .func (.func 89) #[] #[.pointer (some ⟨B, 0, none⟩)]] w fun e w' => AnyQ (!xs.all (dnodeM xs)) e ∧ Below w.heap.size w w' := by
  have hmem := Lib.hid hv.mem
  have HV := Lib.hid hv
  have KS := Lib.hid hks
  have HO := Lib.hid ho
  clear hks ho
  obtain ⟨a, c, rfl, hc1, hc2, -⟩ := hv
  unfold maxLen at hc2
  obtain ⟨bq, hbq⟩ : ∃ b, (!xs.all (dnodeM xs)) = b := ⟨_, rfl⟩
  rw [hbq]
  have HBQ := Lib.hid hbq
  clear hbq
  have HB := Lib.hid hB
  clear hB
  go_enter Try.func149, Try.ntmps149
  go_wp2
  go_loopw [5, 8] (fun q i wr => ∃ k : Nat, k ≤ xs.length ∧ i = .int .i64 k ∧ (∀ j (h : j < xs.length), j < k → dnodeM xs xs[j] = true) ∧ Below w.heap.size w wr) (fun _ i _ => xs.length - (intOf i).toNat)
  case atStart => exact ⟨0, by omega, rfl, fun _ _ hj => absurd hj (by omega), Below.refl _ _⟩
  case round =>
    obtain ⟨k, hk, rfl, hall, hbel⟩ := hrel
    have HAll := Lib.hid hall
    clear hall
    by_cases hlt : k < xs.length
    · obtain ⟨b, off, rfl, hcell⟩ := HV.out.cell hlt
      obtain ⟨v1, hrel, hcs⟩ := hcell k hlt
      obtain ⟨c0, c1, c2, c3⟩ := hcs wr (hs.below hbel)
      have hok := Lib.hid (hmem.out _ (List.getElem_mem hlt))
      have HR := Lib.hid (show IntS h v1 xs[k].kids from hrel)
      have KK := Lib.hid (impl_DataOk_2 wr h (hs.below hbel) _ xs HV.out hl B (cell_kept hbel HB.out) xs[k] hok.out v1 HR.out (KS.out k hlt) (fun h1 => order_in HO.out k hlt h1))
      clear hcell hcs hrel
      cases hp : dnodeM xs xs[k]
      · have HP := Lib.hid hp
        clear hp
        have HA : bq = true := by
          rw [← HBQ.out, Bool.not_eq_true', List.all_eq_false]
          exact ⟨_, List.getElem_mem hlt, by rw [HP.out]; simp⟩
        have HA' := Lib.hid HA
        clear HA
        go_wp2_with fail
        refine KK.out.mono ?_
        rw [HP.out]
        rintro e w1 ⟨rfl, hb1⟩
        go_wp2_with fail
        go_ret
        exact ⟨⟨_, rfl, by rw [HA'.out]; simp⟩, below_chain hb1 hbel hbel.size⟩
      · have HP := Lib.hid hp
        clear hp
        go_wp2_with fail
        refine KK.out.mono ?_
        rw [HP.out]
        rintro e w1 ⟨rfl, hb1⟩
        go_wp2_with fail
        refine ⟨⟨k + 1, by omega, by go_num, fun j hj hjk => ?_, below_chain hb1 hbel hbel.size⟩, ?_⟩
        · rcases Nat.lt_or_ge j k with q | q
          · exact HAll.out j hj q
          · obtain rfl : j = k := by omega
            exact HP.out
        · simp [intOf]; omega
    · have HA : bq = false := by
        rw [← HBQ.out, Bool.not_eq_false', List.all_eq_true]
        intro x hx
        obtain ⟨j, hj, rfl⟩ := List.getElem_of_mem hx
        exact HAll.out j hj (by omega)
      have HA' := Lib.hid HA
      clear HA
      go_wp2
      go_ret
      exact ⟨⟨_, rfl, by rw [HA'.out]; simp⟩, hbel⟩
theorem data_ContainsFunc (w : World) (h : Hp) (hs : Sub h w) (v : Value) (xs : List DDNode) (hv : DDNodeS h v xs) (hl : xs.length ≤ 1000000000) (hks : ∀ k (h : k < xs.length), xs[k].kids.length ≤ 1000000000) (B : Nat) (hB : w.cell? ⟨B, 0, none⟩ = some v) (ho : orderM (kidsOf xs) = true) :
    Calls Try.prog 88 #[v, .func (.func 89) #[] #[.pointer (some ⟨B, 0, none⟩)]] w fun e w' => e = .returned (.bool (!xs.all (dnodeM xs))) ∧ Below w.heap.size w w' := by
  have K := Lib.hid (data_IndexFunc w h hs v xs hv hl hks B hB ho)
  obtain ⟨bq, hbq⟩ : ∃ b, (!xs.all (dnodeM xs)) = b := ⟨_, rfl⟩
  rw [hbq]
  rw [hbq] at K
  clear hbq hB ho hks
  go_enter Try.func88, Try.ntmps88
  go_wp2_with fail
  refine K.out.mono ?_
  rintro e w1 ⟨⟨r, rfl, hr⟩, hb1⟩
  have HR := Lib.hid hr
  clear hr
  go_wp2_with fail
  go_ret
  exact ⟨ret_b (by rw [← HR.out]), hb1⟩
end Go.Proofs.Ythpphiplbaehdaa
