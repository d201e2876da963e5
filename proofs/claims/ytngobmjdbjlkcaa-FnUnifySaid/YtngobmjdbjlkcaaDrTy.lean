import Derived.Test.YtngobmjdbjlkcaaCurB
import Derived.Test.YtngobmjdbjlkcaaHaB
import Derived.Test.YtngobmjdbjlkcaaGn2
/- The drawn types, over the second engine. -/
namespace Go.Proofs.Ytngobmjdbjlkcaa
set_option linter.unusedVariables false
set_option linter.unusedSimpArgs false
attribute [local go_sem] List.length_set
open Go.RowKit
theorem below_eq' (c : Cur) {n : Int} (h : 0 < n) (hn : n ≤ 4294967296) : ∃ x c', 0 ≤ x ∧ x < n ∧ FCon Try.prog 51 [c.d, .s (.int .i64 n)] (fun r o => r = .s (.int .i64 x) ∧ o = [Cur.d c', .un]) :=
  ⟨(c.below n).1, (c.below n).2, (c.below_bd h).1, (c.below_bd h).2, c_below c n hn⟩
def namedM (name : ByteArray) (l : List MTy) : List TyI := ⟨0, name, l.length⟩ :: l.flatMap MTy.items
def accN (name : ByteArray) (l : List MTy) (k : Nat) : List TyI := ⟨0, name, l.length⟩ :: (l.take k).flatMap MTy.items
theorem accN_zero (name : ByteArray) (l : List MTy) : accN name l 0 = [⟨0, name, l.length⟩] := rfl
theorem accN_succ (name : ByteArray) (l : List MTy) {k : Nat} (h : k < l.length) : accN name l (k + 1) = accN name l k ++ l[k].items := by
  unfold accN
  rw [List.take_succ_eq_append_getElem h, List.flatMap_append]; simp
theorem accN_le (name : ByteArray) (l : List MTy) (hi : ∀ t ∈ l, t.items.length ≤ 100000) : ∀ k, k ≤ l.length → (accN name l k).length ≤ 1 + 100000 * k
  | 0, _ => by simp [accN]
  | k + 1, h => by
    have := accN_le name l hi k (by omega)
    have h2 := hi _ (List.getElem_mem (show k < l.length from h))
    rw [accN_succ name l h, List.length_append]; omega
set_option maxRecDepth 100000 in
set_option maxHeartbeats 1000000 in
theorem c_l03Named (name : ByteArray) (l : List MTy) (hl : l.length ≤ 2) (hi : ∀ t ∈ l, t.items.length ≤ 100000) : FCon Try.prog 95 [.s (.string name), .sl 1 (l.map MTy.enc)] (fun r _ => r = .ag [.osl 31 3 ((namedM name l).map TyI.own)]) := by
  have hall : accN name l l.length = namedM name l := by unfold accN namedM; rw [List.take_length]
  refine FCon.intro PM _ Try.func95 (by kernel_rfl) rfl _ Try.ntmps95 rfl [(5, 7, [], [], (lin [] [0, 1, 2, 3, 4, 5, 6]))] (by decide +kernel) (by simp) (by simp) rfl (by first | rfl | simp only [go_sem]) ?_
  (have hWf := f0; repeat' (first | refine zS ?_ | exact zE | with_reducible apply And.intro | ((with_reducible intro hb0); revert hb0; with_reducible first | exact zB0 | refine zB fun hb => ?_ | fail) | ((with_reducible apply q_Meet); exact zM) | exact zC | refine zT ?_ | fail))
  refine AC_loop (fun n σ => ∃ k na : Nat, na = (accN name l k).length ∧ k ≤ l.length ∧ n = l.length - k ∧ σ.t 1 = .sl 1 (l.map MTy.enc) ∧ σ.t 4 = .bx 4 0 ∧ σ.b 4 = some (.box [.nil]) ∧ σ.t 5 = .bx 5 0 ∧ σ.b 5 = some (.box [.bs 11 3 na]) ∧ σ.b 11 = some (.arr 31 3 ((accN name l k).map TyI.own)) ∧ σ.t 14 = .s (.int .i64 l.length) ∧ σ.t 15 = .s (.int .i64 k)) l.length ⟨0, 1, rfl, by omega, by omega, ?_⟩ ?_
  · simp only [go_sem, simprocAttr, Int.natCast_zero, accN_zero, TyI.own_eq]
  · rintro n σ ⟨k, na, hna, hk, rfl, h1, h4, hb4, h5, hb5, hb11, h14, h15⟩ K' hK
    by_cases hlt : k < l.length
    · have hx := getD_map MTy.enc l k hlt
      have he := MTy.enc_eq l[k]
      have e3 := accN_succ name l hlt
      have hle := accN_le name l hi (k + 1) hlt
      rw [e3, List.length_append, ← hna] at hle
      have hk3 : 1 + 100000 * (k + 1) ≤ 1000000 := by omega
      have hle := Nat.le_trans hle hk3
      have hlen : ((accN name l k).map TyI.own).length = na := by rw [List.length_map, hna]
      obtain ⟨its, hits⟩ : ∃ its, l[k].items = its := ⟨_, rfl⟩
      rw [hits] at he e3 hle
      clear hits
      have hnew : na + its.length = (accN name l (k + 1)).length := by rw [e3, List.length_append, ← hna]
      have e3 := congrArg (List.map TyI.own) e3
      rw [List.map_append] at e3
      obtain ⟨ak, hak⟩ : ∃ ak, (accN name l k).map TyI.own = ak := ⟨_, rfl⟩
      rw [hak] at hlen e3 hb11
      have e3 := Lib.hid e3
      have hnew := Lib.hid hnew
      clear hak hna hk3
      (have hWf := WFx.mk (And.intro @h1 <| And.intro @h4 <| And.intro @hb4 <| And.intro @h5 <| And.intro @hb5 <| And.intro @hb11 <| And.intro @h14 <| And.intro @h15 <| And.intro @hx <| And.intro @he <| @hlen); repeat' (first | refine zS ?_ | exact zE | with_reducible apply And.intro | ((with_reducible intro hb0); revert hb0; with_reducible first | exact zB0 | refine zB fun hb => ?_ | fail) | ((with_reducible apply q_Meet); exact zM) | exact zC | refine zT ?_ | fail))
      refine hK (l.length - (k + 1)) _ (by omega) ⟨k + 1, na + its.length, hnew.out, by omega, rfl, ?_⟩
      simp only [go_sem, simprocAttr, h1, h4, hb4, h5, hb5, hb11, h14, h15, Int.natCast_succ, e3.out]
    · obtain rfl : k = l.length := by omega
      rw [hall] at hb11 hna
      (have hWf := WFx.mk (And.intro @h1 <| And.intro @h4 <| And.intro @hb4 <| And.intro @h5 <| And.intro @hb5 <| And.intro @hb11 <| And.intro @h14 <| And.intro @h15 <| @hna); repeat' (first | refine zS ?_ | exact zE | with_reducible apply And.intro | ((with_reducible intro hb0); revert hb0; with_reducible first | exact zB0 | refine zB fun hb => ?_ | fail) | ((with_reducible apply q_Meet); exact zM) | exact zC | refine zT ?_ | fail))
set_option maxRecDepth 100000 in
set_option maxHeartbeats 1000000 in
theorem c_l03Named0 (name : ByteArray) : FCon Try.prog 95 [.s (.string name), .nil] (fun r _ => r = .ag [.osl 31 3 ([(⟨0, name, 0⟩ : TyI)].map TyI.own)]) := by
  refine FCon.intro PM _ Try.func95 (by kernel_rfl) rfl _ Try.ntmps95 rfl [(5, 7, [], [], (lin [] [0, 1, 2, 3, 4, 5, 6]))] (by decide +kernel) (by simp) (by simp) rfl (by first | rfl | simp only [go_sem]) ?_
  (have hWf := f0; repeat' (first | refine zS ?_ | exact zE | with_reducible apply And.intro | ((with_reducible intro hb0); revert hb0; with_reducible first | exact zB0 | refine zB fun hb => ?_ | fail) | ((with_reducible apply q_Meet); exact zM) | exact zC | refine zT ?_ | fail))
  refine AC_loop (fun n σ => n = 0 ∧ σ.t 4 = .bx 4 0 ∧ σ.b 4 = some (.box [.nil]) ∧ σ.t 5 = .bx 5 0 ∧ σ.b 5 = some (.box [.bs 11 3 1]) ∧ σ.b 11 = some (.arr 31 3 ([(⟨0, name, 0⟩ : TyI)].map TyI.own)) ∧ σ.t 14 = .s (.int .i64 0) ∧ σ.t 15 = .s (.int .i64 0)) 0 ⟨rfl, ?_⟩ ?_
  · simp only [go_sem, simprocAttr, TyI.own_eq]
  · rintro n σ ⟨rfl, h4, hb4, h5, hb5, hb11, h14, h15⟩ K' hK
    (have hWf := WFx.mk (And.intro @h4 <| And.intro @hb4 <| And.intro @h5 <| And.intro @hb5 <| And.intro @hb11 <| And.intro @h14 <| @h15); repeat' (first | refine zS ?_ | exact zE | with_reducible apply And.intro | ((with_reducible intro hb0); revert hb0; with_reducible first | exact zB0 | refine zB fun hb => ?_ | fail) | ((with_reducible apply q_Meet); exact zM) | exact zC | refine zT ?_ | fail))
/-- drawn items: each in order, not too many. -/
def ItsR (m : Nat) (r : D) : Prop := ∃ xs : List TyI, r = .ag [.osl 31 3 (xs.map TyI.own)] ∧ 0 < xs.length ∧ xs.length < m ∧ ∀ x ∈ xs, x.ok
def okS (s : ByteArray) : Prop := s.size ≤ 1000
theorem named_ok {name : ByteArray} {l : List MTy} (hn : name.size ≤ 1000) (hl : l.length ≤ 2) (h : ∀ t ∈ l, ∀ x ∈ t.items, x.ok) : ∀ x ∈ namedM name l, x.ok := fun x hx => by
  unfold namedM at hx
  rcases List.mem_cons.1 hx with rfl | hx
  · refine ⟨(⟨by omega, by omega⟩ : I64 0), ?_, (⟨by omega, by omega⟩ : I64 ((l.length : Nat) : Int))⟩
    show name.size ≤ maxLen
    unfold maxLen; omega
  · obtain ⟨t, ht, hx⟩ := List.mem_flatMap.1 hx
    exact h t ht x hx
theorem tint0 : Int.toNat 0 = 0 := rfl
theorem tint1 : Int.toNat 1 = 1 := rfl
theorem tint2 : Int.toNat 2 = 2 := rfl
theorem tint3 : Int.toNat 3 = 3 := rfl
theorem tint4 : Int.toNat 4 = 4 := rfl
theorem tint5 : Int.toNat 5 = 5 := rfl
theorem its_one {m : Nat} (x : TyI) (ho : x.ok) (hm : 2 ≤ m) : ItsR m (.ag [.osl 31 3 [x.own]]) := ⟨[x], rfl, by simp, by simp; omega, fun y hy => by simp at hy; subst hy; exact ho⟩
theorem ok_var {q : Int} (h0 : 0 ≤ q) (h1 : q < 100) : (⟨q, ⟨#[]⟩, 0⟩ : TyI).ok := ⟨(⟨by omega, by omega⟩ : I64 q), by show (⟨#[]⟩ : ByteArray).size ≤ maxLen; decide, (⟨by omega, by omega⟩ : I64 0)⟩
theorem ok_con {s : ByteArray} (h : s.size ≤ 1000) : (⟨0, s, 0⟩ : TyI).ok := ⟨(⟨by omega, by omega⟩ : I64 0), by show s.size ≤ maxLen; unfold maxLen; omega, (⟨by omega, by omega⟩ : I64 0)⟩
set_option maxRecDepth 100000 in
set_option maxHeartbeats 4000000 in
theorem l04_leaf (f : Nat) (c : Cur) (vars : Int) (deep : Int) (v0 : 0 < vars) (v1 : vars ≤ 100) (k : Int) (c1 : Cur) (B1 : FCon Try.prog 51 [c.d, .s (.int .i64 9)] (fun r o => r = .s (.int .i64 k) ∧ o = [Cur.d c1, .un])) (hlf : (decide (deep > 4) = true ∧ True) ∨ (decide (deep > 4) = false ∧ decide (k < 3) = true)) : FCon Try.prog 53 [c.d, .s (.int .i64 vars), .s (.int .i64 deep)] (fun r o => ItsR (2 ^ (f + 1)) r ∧ ∃ c', o = [Cur.d c', .un, .un]) := by
  have hm : 2 ≤ 2 ^ (f + 1) := by
    have h1 : 2 ^ 1 ≤ 2 ^ (f + 1) := Nat.pow_le_pow_right (by decide) (Nat.le_add_left 1 f)
    simpa using h1
  have e0 : decide (vars > 0) = true := by simpa using v0
  obtain ⟨j, c2, j0, j1, B2⟩ := below_eq' c1 (n := 2) (by omega) (by omega)
  by_cases hj : j = 0
  · subst hj
    obtain ⟨q, c3, q0, q1, B3⟩ := below_eq' c2 v0 (by omega)
    rcases hlf with ⟨e1, e2⟩ | ⟨e1, e2⟩
    all_goals
      refine FCon.intro PM _ Try.func53 (by kernel_rfl) rfl _ Try.ntmps53 rfl [(8, 7, [2, 7], [(2, 0), (2, 5), (2, 6)], (lin [2, 7] [0, 1, 5, 6, 2, 3, 4])), (10, 8, [2, 8], [(2, 0), (2, 5), (2, 6), (2, 7)], (lin [2, 8] [0, 1, 5, 6, 7, 2, 3, 4]))] (by decide +kernel) (by simp) (by simp) rfl (by first | rfl | simp only [go_sem]) ?_
      (have hWf := WFx.mk (And.intro @e0 <| And.intro @e1 <| @e2); repeat' (first | refine zS ?_ | exact zE | with_reducible apply And.intro | ((with_reducible apply q_CallG); refine CallG_mk (B1) ?_; rintro _ _ ⟨rfl, rfl⟩) | ((with_reducible apply q_CallQ); refine CallQ_mk (B1) ?_) | ((with_reducible apply q_CallG); refine CallG_mk (B2) ?_; rintro _ _ ⟨rfl, rfl⟩) | ((with_reducible apply q_CallQ); refine CallQ_mk (B2) ?_) | ((with_reducible apply q_CallG); refine CallG_mk (B3) ?_; rintro _ _ ⟨rfl, rfl⟩) | ((with_reducible apply q_CallQ); refine CallQ_mk (B3) ?_) | ((with_reducible intro hb0); revert hb0; with_reducible first | exact zB0 | refine zB fun hb => ?_ | fail) | ((with_reducible apply q_Meet); exact zM) | exact zC | refine zT ?_ | fail))
      · exact its_one ⟨q, ⟨#[]⟩, 0⟩ (ok_var q0 (by omega)) hm
      · exact ⟨c3, rfl⟩
  · have e3 : (j == 0) = false := by simpa using hj
    obtain ⟨q, c3, q0, q1, B3⟩ := below_eq' c2 (n := 4) (by omega) (by omega)
    have hq : q = 0 ∨ q = 1 ∨ q = 2 ∨ q = 3 := by omega
    rcases hlf with ⟨e1, e2⟩ | ⟨e1, e2⟩
    all_goals
      rcases hq with rfl | rfl | rfl | rfl
      all_goals
        refine FCon.intro PM _ Try.func53 (by kernel_rfl) rfl _ Try.ntmps53 rfl [(8, 7, [2, 7], [(2, 0), (2, 5), (2, 6)], (lin [2, 7] [0, 1, 5, 6, 2, 3, 4])), (10, 8, [2, 8], [(2, 0), (2, 5), (2, 6), (2, 7)], (lin [2, 8] [0, 1, 5, 6, 7, 2, 3, 4]))] (by decide +kernel) (by simp) (by simp) rfl (by first | rfl | simp only [go_sem]) ?_
        (have hWf := WFx.mk (And.intro @e0 <| And.intro @e1 <| And.intro @e2 <| And.intro @e3 <| And.intro @tint0 <| And.intro @tint1 <| And.intro @tint2 <| @tint3); repeat' (first | refine zS ?_ | exact zE | with_reducible apply And.intro | ((with_reducible apply q_CallG); refine CallG_mk (B1) ?_; rintro _ _ ⟨rfl, rfl⟩) | ((with_reducible apply q_CallQ); refine CallQ_mk (B1) ?_) | ((with_reducible apply q_CallG); refine CallG_mk (B2) ?_; rintro _ _ ⟨rfl, rfl⟩) | ((with_reducible apply q_CallQ); refine CallQ_mk (B2) ?_) | ((with_reducible apply q_CallG); refine CallG_mk (B3) ?_; rintro _ _ ⟨rfl, rfl⟩) | ((with_reducible apply q_CallQ); refine CallQ_mk (B3) ?_) | ((with_reducible apply q_CallG); refine zG (c_l03Named0 _) ?_) | ((with_reducible apply q_CallQ); refine CallQ_mk (c_l03Named0 _) ?_) | ((with_reducible intro hb0); revert hb0; with_reducible first | exact zB0 | refine zB fun hb => ?_ | fail) | ((with_reducible apply q_Meet); exact zM) | exact zC | refine zT ?_ | fail))
        · exact its_one _ (ok_con (by decide)) hm
        · exact ⟨c3, rfl⟩
set_option maxRecDepth 100000 in
set_option maxHeartbeats 4000000 in
theorem c_l04Of : ∀ (f : Nat) (c : Cur) (vars : Int) (deep : Int), f ≤ 5 → 0 < vars → vars ≤ 100 → 5 - deep ≤ f → 0 ≤ deep → deep ≤ 5 → FCon Try.prog 53 [c.d, .s (.int .i64 vars), .s (.int .i64 deep)] (fun r o => ItsR (2 ^ (f + 1)) r ∧ ∃ c', o = [Cur.d c', .un, .un]) := by
  intro f
  induction f with
  | zero =>
    intro c vars deep f5 v0 v1 hf d0 d1
    obtain ⟨k, c1, k0, k1, B1⟩ := below_eq' c (n := 9) (by omega) (by omega)
    exact l04_leaf 0 c vars deep v0 v1 k c1 B1 (.inl ⟨by simp; omega, trivial⟩)
  | succ f ih =>
    intro c vars deep f5 v0 v1 hf d0 d1
    have hpow : 2 ^ (f + 1) ≤ 2 ^ 6 := Nat.pow_le_pow_right (by decide) (show f + 1 ≤ 6 by omega)
    have h64 : (2 : Nat) ^ 6 = 64 := rfl
    have h21 : (2 : Nat) ^ 1 = 2 := rfl
    have hpow2 : 2 ^ (f + 1 + 1) = 2 ^ (f + 1) * 2 := Nat.pow_succ 2 (f + 1)
    have hpow3 : 2 ^ 1 ≤ 2 ^ (f + 1) := Nat.pow_le_pow_right (by decide) (show 1 ≤ f + 1 from Nat.le_add_left 1 f)
    obtain ⟨k, c1, k0, k1, B1⟩ := below_eq' c (n := 9) (by omega) (by omega)
    by_cases hd : deep > 4
    · exact l04_leaf (f + 1) c vars deep v0 v1 k c1 B1 (.inl ⟨by simpa using hd, trivial⟩)
    · have e1 : decide (deep > 4) = false := by simpa using hd
      by_cases hk : k < 3
      · exact l04_leaf (f + 1) c vars deep v0 v1 k c1 B1 (.inr ⟨e1, by simpa using hk⟩)
      · have e2 : decide (k < 3) = false := by simpa using hk
        have A := ih c1 vars (deep + 1) (by omega) v0 v1 (by omega) (by omega) (by omega)
        by_cases hk5 : k < 5
        · have e5 : decide (k < 5) = true := by simpa using hk5
          refine FCon.intro PM _ Try.func53 (by kernel_rfl) rfl _ Try.ntmps53 rfl [(8, 7, [2, 7], [(2, 0), (2, 5), (2, 6)], (lin [2, 7] [0, 1, 5, 6, 2, 3, 4])), (10, 8, [2, 8], [(2, 0), (2, 5), (2, 6), (2, 7)], (lin [2, 8] [0, 1, 5, 6, 7, 2, 3, 4]))] (by decide +kernel) (by simp) (by simp) rfl (by first | rfl | simp only [go_sem]) ?_
          iterate 6 (refine AC_go ?_; simp only [go_sem, simprocAttr, e1, e2, e5]; (have hWf := WFx.mk (And.intro @e1 <| And.intro @e2 <| @e5); repeat' (first | refine zY ?_ | with_reducible apply And.intro | ((with_reducible apply q_CallG); refine CallG_mk (B1) ?_; rintro _ _ ⟨rfl, rfl⟩) | ((with_reducible apply q_CallQ); refine CallQ_mk (B1) ?_) | ((with_reducible apply q_CallG); refine CallG_mk (A) ?_; rintro _ _ ⟨⟨xs, rfl, x0, x1, x2⟩, c2, rfl⟩) | ((with_reducible apply q_CallQ); refine CallQ_mk (A) ?_) | ((with_reducible intro hb0); revert hb0; with_reducible first | exact zB0 | refine zB fun hb => ?_ | fail) | ((with_reducible apply q_Meet); exact zM) | exact zC | refine zT ?_ | fail)))
          refine AC_fr 1041 (.arr 31 3 (xs.map TyI.own)) (by simp only [go_sem, simprocAttr]) rfl ?_
          obtain ⟨q, c3, q0, q1, B3⟩ := below_eq' c2 (n := 3) (by omega) (by omega)
          have hN := fun name => c_l03Named name [⟨xs⟩] (by simp) (by simp; omega)
          have hq : q = 0 ∨ q = 1 ∨ q = 2 := by omega
          rcases hq with rfl | rfl | rfl
          all_goals
            (have hWf := WFx.mk (And.intro @e1 <| And.intro @e2 <| And.intro @e5 <| And.intro @tint0 <| And.intro @tint1 <| And.intro @tint2 <| @TyI.frzS); repeat' (first | refine zS ?_ | exact zE | with_reducible apply And.intro | ((with_reducible apply q_CallE); refine CallE_mk (B3) ?_) | ((with_reducible apply q_CallG); refine CallG_mk (B3) ?_; rintro _ _ ⟨rfl, rfl⟩) | ((with_reducible apply q_CallQ); refine CallQ_mk (B3) ?_) | ((with_reducible apply q_CallE); refine CallE_mk (FCon.noout (hN _)) ?_) | ((with_reducible apply q_CallG); refine zG (hN _) ?_) | ((with_reducible apply q_CallQ); refine CallQ_mk (hN _) ?_) | ((with_reducible intro hb0); revert hb0; with_reducible first | exact zB0 | refine zB fun hb => ?_ | fail) | ((with_reducible apply q_Meet); exact zM) | exact zC | refine zT ?_ | fail))
            · exact ⟨_, rfl, by simp [namedM], by simp [namedM]; omega, named_ok (by decide) (by simp) (by simpa using x2)⟩
            · exact ⟨c3, rfl⟩
        · have e5 : decide (k < 5) = false := by simpa using hk5
          have A2 := fun c2 => ih c2 vars (deep + 1) (by omega) v0 v1 (by omega) (by omega) (by omega)
          refine FCon.intro PM _ Try.func53 (by kernel_rfl) rfl _ Try.ntmps53 rfl [(8, 7, [2, 7], [(2, 0), (2, 5), (2, 6)], (lin [2, 7] [0, 1, 5, 6, 2, 3, 4])), (10, 8, [2, 8], [(2, 0), (2, 5), (2, 6), (2, 7)], (lin [2, 8] [0, 1, 5, 6, 7, 2, 3, 4]))] (by decide +kernel) (by simp) (by simp) rfl (by first | rfl | simp only [go_sem]) ?_
          iterate 6 (refine AC_go ?_; simp only [go_sem, simprocAttr, e1, e2, e5]; (have hWf := WFx.mk (And.intro @e1 <| And.intro @e2 <| @e5); repeat' (first | refine zY ?_ | with_reducible apply And.intro | ((with_reducible apply q_CallG); refine CallG_mk (B1) ?_; rintro _ _ ⟨rfl, rfl⟩) | ((with_reducible apply q_CallQ); refine CallQ_mk (B1) ?_) | ((with_reducible apply q_CallG); refine CallG_mk (A) ?_; rintro _ _ ⟨⟨xs, rfl, x0, x1, x2⟩, c2, rfl⟩) | ((with_reducible apply q_CallQ); refine CallQ_mk (A) ?_) | ((with_reducible intro hb0); revert hb0; with_reducible first | exact zB0 | refine zB fun hb => ?_ | fail) | ((with_reducible apply q_Meet); exact zM) | exact zC | refine zT ?_ | fail)))
          refine AC_fr 1041 (.arr 31 3 (xs.map TyI.own)) (by simp only [go_sem, simprocAttr]) rfl ?_
          iterate 4 (refine AC_go ?_; simp only [go_sem, simprocAttr, e1, e2, e5, TyI.frzS]; (have hWf := WFx.mk (And.intro @e1 <| And.intro @e2 <| And.intro @e5 <| @TyI.frzS); repeat' (first | refine zY ?_ | with_reducible apply And.intro | ((with_reducible apply q_CallG); refine CallG_mk (A2 c2) ?_; rintro _ _ ⟨⟨ys, rfl, y0, y1, y2⟩, c4, rfl⟩) | ((with_reducible apply q_CallQ); refine CallQ_mk (A2 c2) ?_) | ((with_reducible intro hb0); revert hb0; with_reducible first | exact zB0 | refine zB fun hb => ?_ | fail) | ((with_reducible apply q_Meet); exact zM) | exact zC | refine zT ?_ | fail)))
          refine AC_fr 1056 (.arr 31 3 (ys.map TyI.own)) (by simp only [go_sem, simprocAttr]) rfl ?_
          obtain ⟨q, c3, q0, q1, B3⟩ := below_eq' c4 (n := 4) (by omega) (by omega)
          have hN := fun name => c_l03Named name [⟨xs⟩, ⟨ys⟩] (by simp) (by simp; omega)
          have hq : q = 0 ∨ q = 1 ∨ q = 2 ∨ q = 3 := by omega
          rcases hq with rfl | rfl | rfl | rfl
          all_goals
            (have hWf := WFx.mk (And.intro @e1 <| And.intro @e2 <| And.intro @e5 <| And.intro @tint0 <| And.intro @tint1 <| And.intro @tint2 <| And.intro @tint3 <| @TyI.frzS); repeat' (first | refine zS ?_ | exact zE | with_reducible apply And.intro | ((with_reducible apply q_CallE); refine CallE_mk (B3) ?_) | ((with_reducible apply q_CallG); refine CallG_mk (B3) ?_; rintro _ _ ⟨rfl, rfl⟩) | ((with_reducible apply q_CallQ); refine CallQ_mk (B3) ?_) | ((with_reducible apply q_CallE); refine CallE_mk (FCon.noout (hN _)) ?_) | ((with_reducible apply q_CallG); refine zG (hN _) ?_) | ((with_reducible apply q_CallQ); refine CallQ_mk (hN _) ?_) | ((with_reducible intro hb0); revert hb0; with_reducible first | exact zB0 | refine zB fun hb => ?_ | fail) | ((with_reducible apply q_Meet); exact zM) | exact zC | refine zT ?_ | fail))
            · exact ⟨_, rfl, by simp [namedM], by simp [namedM]; omega, named_ok (by decide) (by simp) (by simp; exact ⟨x2, y2⟩)⟩
            · exact ⟨c3, rfl⟩
/-- drawn items, there may be none. -/
def ItsR0 (m : Nat) (r : D) : Prop := ∃ xs : List TyI, r = .ag [.osl 31 3 (xs.map TyI.own)] ∧ xs.length ≤ m ∧ ∀ x ∈ xs, x.ok
theorem its_set {m : Nat} {xs : List TyI} (hm : xs.length ≤ m) (ho : ∀ x ∈ xs, x.ok) (i : Nat) (y : TyI) (hy : y.ok) : ItsR0 m (.ag [.osl 31 3 ((xs.map TyI.own).set i y.own)]) := by
  refine ⟨xs.set i y, by rw [List.map_set], by simpa using hm, fun x hx => ?_⟩
  rcases List.mem_or_eq_of_mem_set hx with q | q
  · exact ho x q
  · subst q; exact hy
theorem its_set' {m : Nat} {xs : List TyI} (hm : xs.length ≤ m) (ho : ∀ x ∈ xs, x.ok) (i : Nat) (v : Int) (n : ByteArray) (a : Int) (hy : (⟨v, n, a⟩ : TyI).ok) : ItsR0 m (.ag [.osl 31 3 ((xs.map TyI.own).set i [.s (.int .i64 v), .s (.string n), .s (.int .i64 a)])]) := its_set hm ho i ⟨v, n, a⟩ hy
theorem ok_ar {x : TyI} (h : x.ok) {a : Int} (h0 : 0 ≤ a) (h1 : a < 100) : (⟨x.v, x.name, a⟩ : TyI).ok := ⟨h.1, h.2.1, (⟨by omega, by omega⟩ : I64 a)⟩
theorem ok_nm {x : TyI} (h : x.ok) {s : ByteArray} (hs : s.size ≤ 1000) : (⟨x.v, s, x.ar⟩ : TyI).ok := ⟨h.1, by show s.size ≤ maxLen; unfold maxLen; omega, h.2.2⟩
theorem ok_vr {x : TyI} (h : x.ok) {v : Int} (h0 : -1 ≤ v) (h1 : v < 100000) : (⟨v, x.name, x.ar⟩ : TyI).ok := ⟨(⟨by omega, by omega⟩ : I64 v), h.2.1, h.2.2⟩
set_option maxRecDepth 100000 in
set_option maxHeartbeats 8000000 in
theorem c_l04AnyTy (c : Cur) : FCon Try.prog 99 [c.d] (fun r o => ItsR0 400 r ∧ ∃ c', o = [Cur.d c']) := by
  have h6 : (2 : Nat) ^ (5 + 1) = 64 := rfl
  have A := c_l04Of 5 c 4 0 (by omega) (by omega) (by omega) (by omega) (by omega) (by omega)
  rw [h6] at A
  refine FCon.intro PM _ Try.func99 (by kernel_rfl) rfl _ Try.ntmps99 rfl [(5, 5, [4], [(4, 0), (4, 1), (4, 2)], (lin [4] [0, 1, 2, 3, 4])), (7, 8, [5], [(5, 0), (5, 1), (5, 2), (5, 3)], (lin [5] [0, 1, 2, 3, 4, 5, 6, 7])), (9, 8, [5], [(5, 0), (5, 1), (5, 2), (5, 3)], (lin [5] [0, 1, 2, 3, 4, 5, 6, 7])), (13, 6, [4], [(4, 0), (4, 1), (4, 2)], (lin [4] [0, 1, 2, 3, 4, 5]))] (by decide +kernel) (by simp) (by simp) rfl (by first | rfl | simp only [go_sem]) ?_
  iterate 2 (refine AC_go ?_; simp only [go_sem, simprocAttr]; (have hWf := f0; repeat' (first | refine zY ?_ | with_reducible apply And.intro | ((with_reducible apply q_CallG); refine CallG_mk (A) ?_; rintro _ _ ⟨⟨xs, rfl, x0, x1, x2⟩, c1, rfl⟩) | ((with_reducible apply q_CallQ); refine CallQ_mk (A) ?_) | ((with_reducible intro hb0); revert hb0; with_reducible first | exact zB0 | refine zB fun hb => ?_ | fail) | ((with_reducible apply q_Meet); exact zM) | exact zC | refine zT ?_ | fail)))
  obtain ⟨k, c2, k0, k1, B1⟩ := below_eq' c1 (n := 12) (by omega) (by omega)
  obtain ⟨i, c3, i0, i1, B2⟩ := below_eq' c2 (n := (xs.length : Int)) (by omega) (by omega)
  obtain ⟨i, rfl⟩ := Int.eq_ofNat_of_zero_le i0
  have hi : i < xs.length := by omega
  have hx := getD_map TyI.own xs i hi
  have he := TyI.own_eq xs[i]
  have hxo := x2 _ (List.getElem_mem hi)
  have hkk : k = 0 ∨ k = 1 ∨ k = 2 ∨ k = 3 ∨ k = 4 ∨ 4 < k := by omega
  rcases hkk with rfl | rfl | rfl | rfl | rfl | hk
  · obtain ⟨q, c4, q0, q1, B3⟩ := below_eq' c3 (n := 4) (by omega) (by omega)
    (have hWf := WFx.mk (And.intro @hx <| @he); repeat' (first | refine zS ?_ | exact zE | with_reducible apply And.intro | ((with_reducible apply q_CallG); refine CallG_mk (B1) ?_; rintro _ _ ⟨rfl, rfl⟩) | ((with_reducible apply q_CallQ); refine CallQ_mk (B1) ?_) | ((with_reducible apply q_CallG); refine CallG_mk (B2) ?_; rintro _ _ ⟨rfl, rfl⟩) | ((with_reducible apply q_CallQ); refine CallQ_mk (B2) ?_) | ((with_reducible apply q_CallE); refine CallE_mk (B3) ?_) | ((with_reducible intro hb0); revert hb0; with_reducible first | exact zB0 | refine zB fun hb => ?_ | fail) | ((with_reducible apply q_Meet); exact zM) | exact zC | refine zT ?_ | fail))
    · exact its_set (by omega) x2 i ⟨xs[i].v, xs[i].name, q⟩ (ok_ar hxo q0 (by omega))
    · exact ⟨c4, rfl⟩
  · obtain ⟨q, c4, q0, q1, B3⟩ := below_eq' c3 (n := 6) (by omega) (by omega)
    have hq : q = 0 ∨ q = 1 ∨ q = 2 ∨ q = 3 ∨ q = 4 ∨ q = 5 := by omega
    rcases hq with rfl | rfl | rfl | rfl | rfl | rfl
    all_goals
      (have hWf := WFx.mk (And.intro @hx <| And.intro @he <| And.intro @tint0 <| And.intro @tint1 <| And.intro @tint2 <| And.intro @tint3 <| And.intro @tint4 <| @tint5); repeat' (first | refine zS ?_ | exact zE | with_reducible apply And.intro | ((with_reducible apply q_CallG); refine CallG_mk (B1) ?_; rintro _ _ ⟨rfl, rfl⟩) | ((with_reducible apply q_CallQ); refine CallQ_mk (B1) ?_) | ((with_reducible apply q_CallG); refine CallG_mk (B2) ?_; rintro _ _ ⟨rfl, rfl⟩) | ((with_reducible apply q_CallQ); refine CallQ_mk (B2) ?_) | ((with_reducible apply q_CallE); refine CallE_mk (B3) ?_) | ((with_reducible intro hb0); revert hb0; with_reducible first | exact zB0 | refine zB fun hb => ?_ | fail) | ((with_reducible apply q_Meet); exact zM) | exact zC | refine zT ?_ | fail))
      · refine its_set' ?_ x2 _ _ _ _ ?_
        · omega
        · exact ok_nm hxo (by decide)
      · exact ⟨c4, rfl⟩
  · obtain ⟨q, c4, q0, q1, B3⟩ := below_eq' c3 (n := 4) (by omega) (by omega)
    have hq : q = 0 ∨ q = 1 ∨ q = 2 ∨ q = 3 := by omega
    rcases hq with rfl | rfl | rfl | rfl
    all_goals
      (have hWf := WFx.mk (And.intro @hx <| And.intro @he <| And.intro @tint0 <| And.intro @tint1 <| And.intro @tint2 <| @tint3); repeat' (first | refine zS ?_ | exact zE | with_reducible apply And.intro | ((with_reducible apply q_CallG); refine CallG_mk (B1) ?_; rintro _ _ ⟨rfl, rfl⟩) | ((with_reducible apply q_CallQ); refine CallQ_mk (B1) ?_) | ((with_reducible apply q_CallG); refine CallG_mk (B2) ?_; rintro _ _ ⟨rfl, rfl⟩) | ((with_reducible apply q_CallQ); refine CallQ_mk (B2) ?_) | ((with_reducible apply q_CallE); refine CallE_mk (B3) ?_) | ((with_reducible intro hb0); revert hb0; with_reducible first | exact zB0 | refine zB fun hb => ?_ | fail) | ((with_reducible apply q_Meet); exact zM) | exact zC | refine zT ?_ | fail))
      · refine its_set' ?_ x2 _ _ _ _ ?_
        · omega
        · exact ok_vr hxo (by decide) (by decide)
      · exact ⟨c4, rfl⟩
  · (have hWf := WFx.mk (And.intro @hx <| @he); repeat' (first | refine zS ?_ | exact zE | with_reducible apply And.intro | ((with_reducible apply q_CallG); refine CallG_mk (B1) ?_; rintro _ _ ⟨rfl, rfl⟩) | ((with_reducible apply q_CallQ); refine CallQ_mk (B1) ?_) | ((with_reducible apply q_CallG); refine CallG_mk (B2) ?_; rintro _ _ ⟨rfl, rfl⟩) | ((with_reducible apply q_CallQ); refine CallQ_mk (B2) ?_) | ((with_reducible intro hb0); revert hb0; with_reducible first | exact zB0 | refine zB fun hb => ?_ | fail) | ((with_reducible apply q_Meet); exact zM) | exact zC | refine zT ?_ | fail))
    · exact ⟨xs.take i, by rw [List.map_take], by simp; omega, fun x hx => x2 x (List.mem_of_mem_take hx)⟩
    · exact ⟨c3, rfl⟩
  · (have hWf := f0; repeat' (first | refine zS ?_ | exact zE | with_reducible apply And.intro | ((with_reducible apply q_CallG); refine CallG_mk (B1) ?_; rintro _ _ ⟨rfl, rfl⟩) | ((with_reducible apply q_CallQ); refine CallQ_mk (B1) ?_) | ((with_reducible apply q_CallG); refine CallG_mk (B2) ?_; rintro _ _ ⟨rfl, rfl⟩) | ((with_reducible apply q_CallQ); refine CallQ_mk (B2) ?_) | ((with_reducible intro hb0); revert hb0; with_reducible first | exact zB0 | refine zB fun hb => ?_ | fail) | ((with_reducible apply q_Meet); exact zM) | exact zC | refine zT ?_ | fail))
    refine AC_loop (fun n σ => ∃ (c' : Cur) (zs : List TyI) (nm : Nat), (nm = 1007 ∨ nm = 1066) ∧ n = 500 - zs.length ∧ zs.length ≤ 300 ∧ (∀ x ∈ zs, x.ok) ∧ σ.t 0 = .bx 900000 0 ∧ σ.b 900000 = some (.box [.sl 1 (c'.zs.map u8E), .s (.int .i64 c'.k), .s (.int .i64 c'.h)]) ∧ σ.t 2 = .bx 2 0 ∧ σ.b 2 = some (.box [.nil]) ∧ σ.t 3 = .bx 3 0 ∧ σ.b 3 = some (.box [.bs nm 3 zs.length]) ∧ σ.b nm = some (.arr 31 3 (zs.map TyI.own))) (500 - xs.length) ⟨c3, xs, 1007, .inl rfl, rfl, by omega, x2, ?_⟩ ?_
    · simp only [go_sem, simprocAttr]
    · rintro n σ ⟨c', zs, nm, hnm, rfl, hz, hzo, h0, hb0, h2, hb2, h3, hb3, hbn⟩ K' hK
      obtain ⟨v, c5, v0, v1, B5⟩ := below_eq' c' (n := 2) (by omega) (by omega)
      have hN := c_l03Named ⟨#[108, 105, 115, 116]⟩ [⟨zs⟩] (by simp) (by simp; omega)
      rcases hnm with rfl | rfl
      all_goals
        by_cases hlt : (zs.length : Int) < 199 + v
        · have e1 : decide ((zs.length : Int) < 199 + v) = true := by simpa using hlt
          (have hWf := WFx.mk (And.intro @h0 <| And.intro @hb0 <| And.intro @h2 <| And.intro @hb2 <| And.intro @h3 <| And.intro @hb3 <| And.intro @hbn <| And.intro @e1 <| @TyI.frzS); repeat' (first | refine zS ?_ | exact zE | with_reducible apply And.intro | ((with_reducible apply q_CallE); refine CallE_mk (B5) ?_) | refine zK (hN) ?_ | ((with_reducible intro hb0); revert hb0; with_reducible first | exact zB0 | refine zB fun hb => ?_ | fail) | ((with_reducible apply q_Meet); exact zM) | exact zC | refine zT ?_ | fail))
          refine hK (500 - (zs.length + 1)) _ (by omega) ⟨c5, namedM ⟨#[108, 105, 115, 116]⟩ [⟨zs⟩], 1066, .inr rfl, by simp [namedM], by simp [namedM]; omega, named_ok (by decide) (by simp) (by simpa using hzo), ?_⟩
          simp only [go_sem, simprocAttr, h0, hb0, h2, hb2, h3, hb3, hbn]
          all_goals trace_state
        · have e1 : decide ((zs.length : Int) < 199 + v) = false := by simpa using hlt
          (have hWf := WFx.mk (And.intro @h0 <| And.intro @hb0 <| And.intro @h2 <| And.intro @hb2 <| And.intro @h3 <| And.intro @hb3 <| And.intro @hbn <| @e1); repeat' (first | refine zS ?_ | exact zE | with_reducible apply And.intro | ((with_reducible apply q_CallE); refine CallE_mk (B5) ?_) | ((with_reducible intro hb0); revert hb0; with_reducible first | exact zB0 | refine zB fun hb => ?_ | fail) | ((with_reducible apply q_Meet); exact zM) | exact zC | refine zT ?_ | fail))
          · exact ⟨zs, rfl, by omega, hzo⟩
          · exact ⟨c5, rfl⟩
  · have f0 : (k == 0) = false := by simp; omega
    have f1 : (k == 1) = false := by simp; omega
    have f2 : (k == 2) = false := by simp; omega
    have f3 : (k == 3) = false := by simp; omega
    have f4 : (k == 4) = false := by simp; omega
    (have hWf := WFx.mk (And.intro @f0 <| And.intro @f1 <| And.intro @f2 <| And.intro @f3 <| @f4); repeat' (first | refine zS ?_ | exact zE | with_reducible apply And.intro | ((with_reducible apply q_CallG); refine CallG_mk (B1) ?_; rintro _ _ ⟨rfl, rfl⟩) | ((with_reducible apply q_CallQ); refine CallQ_mk (B1) ?_) | ((with_reducible apply q_CallG); refine CallG_mk (B2) ?_; rintro _ _ ⟨rfl, rfl⟩) | ((with_reducible apply q_CallQ); refine CallQ_mk (B2) ?_) | ((with_reducible intro hb0); revert hb0; with_reducible first | exact zB0 | refine zB fun hb => ?_ | fail) | ((with_reducible apply q_Meet); exact zM) | exact zC | refine zT ?_ | fail))
    · exact ⟨xs, rfl, by omega, x2⟩
    · exact ⟨c3, rfl⟩
set_option maxRecDepth 100000 in
theorem c_DrawTyCanon (zs : List UInt8) : FCon Try.prog 45 [.sl 1 (zs.map u8E)] (fun r _ => ItsR0 400 r) := by
  refine FCon.intro PM _ Try.func45 (by kernel_rfl) rfl _ Try.ntmps45 rfl [] (by decide +kernel) (by simp) (by simp) rfl (by first | rfl | simp only [go_sem]) ?_
  (have hWf := f0; repeat' (first | refine zS ?_ | exact zE | with_reducible apply And.intro | ((with_reducible apply q_CallG); refine CallG_mk (c_l01New zs) ?_; rintro _ _ ⟨h, rfl⟩) | ((with_reducible apply q_CallQ); refine CallQ_mk (c_l01New zs) ?_) | ((with_reducible apply q_CallG); refine CallG_mk (c_l04AnyTy ⟨zs, 0, h⟩) ?_; rintro _ _ ⟨⟨xs, rfl, x1, x2⟩, c, rfl⟩) | ((with_reducible apply q_CallQ); refine CallQ_mk (c_l04AnyTy ⟨zs, 0, h⟩) ?_) | ((with_reducible intro hb0); revert hb0; with_reducible first | exact zB0 | refine zB fun hb => ?_ | fail) | ((with_reducible apply q_Meet); exact zM) | exact zC | refine zT ?_ | fail))
  all_goals exact ⟨xs, rfl, x1, x2⟩
end Go.Proofs.Ytngobmjdbjlkcaa
