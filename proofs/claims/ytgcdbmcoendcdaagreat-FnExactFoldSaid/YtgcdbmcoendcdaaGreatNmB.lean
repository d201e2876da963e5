import Derived.Test.YtgcdbmcoendcdaaGreatHaB
import Derived.Test.YtgcdbmcoendcdaaGreatBase
import Derived.WalkKit
/- Names and numbers of both sides, over the second engine. -/
set_option maxRecDepth 100000
set_option maxHeartbeats 1000000
namespace Go.Proofs.YtgcdbmcoendcdaaGreat
set_option linter.unusedVariables false
set_option linter.unusedSimpArgs false
open Go.RowKit
theorem sB {a b : Bool} (h : a = b) : D.s (.bool a) = .s (.bool b) := by rw [h]
theorem FCon.ofStr {f : FuncId} {fn : Func} {c : Code} (hf : Tryz.prog.funcs[f]? = some fn) (hname : (fn.name == "runtime.NumGoroutine") = false) (hb : fn.body = some c) (s : ByteArray) (b : Bool) (h : ∀ w, Calls Tryz.prog f #[.string s] w fun e w' => e = .returned (.bool b) ∧ Below w.heap.size w w') : FCon Tryz.prog f [.s (.string s)] (fun r _ => r = .s (.bool b)) := by
  refine FCon.ofBelow (Rv := fun v => v = .bool b) hf hname hb ?_ rfl ?_
  · rintro _ rfl; exact ⟨rfl, rfl⟩
  · intro w S up vs hl hv
    obtain ⟨v, rfl, h'⟩ := one_arg (P := fun _ d u => RB S up w d u) hl hv
    have := Rep.s_inv (show Rep S up w none (.s (.string s)) v from h')
    subst this
    exact (h w).mono fun e w' h => ⟨_, h.1, rfl, h.2⟩
theorem c_implNameOk (s : ByteArray) (hs : s.size ≤ maxLen) : FCon Tryz.prog 43 [.s (.string s)] (fun r _ => r = .s (.bool (nameM s))) := FCon.ofStr Tryz.func43 rfl rfl s _ fun w => impl_NameOk w s hs
theorem c_specNameOk (s : ByteArray) (hs : s.size ≤ maxLen) : FCon Tryz.prog 47 [.s (.string s)] (fun r _ => r = .s (.bool (nameM s))) := FCon.ofStr Tryz.func47 rfl rfl s _ fun w => spec_NameOk w s hs
theorem c_within (n lo hi : Int) : FCon Tryz.prog 65 [.s (.int .i64 n), .s (.int .i64 lo), .s (.int .i64 hi)] (fun r _ => r = .s (.bool (decide (lo ≤ n) && decide (n ≤ hi)))) := by
  refine FCon.intro PM _ Tryz.func65 (by kernel_rfl) rfl _ Tryz.ntmps65 rfl [] (by decide +kernel) (by simp) (by simp) rfl (by first | rfl | simp only [go_sem]) ?_
  (have hWf := f0; repeat' (first | refine zS ?_ | exact zE | with_reducible apply And.intro | with_reducible exact zB0 | with_reducible refine zB fun hb => ?_ | exact zC | refine zT ?_ | fail))
  all_goals exact sB (by simp_all)
theorem c_implConOk (s : ByteArray) (hs : s.size ≤ maxLen) : FCon Tryz.prog 179 [.s (.string s)] (fun r _ => r = .s (.bool (conM s.data.toList))) := FCon.ofStr Tryz.func179 rfl rfl s _ fun w => (impl_ConOk w s hs).mono fun e w' ⟨q1, q2⟩ => ⟨q1, q2 ▸ Below.refl _ _⟩
theorem c_specConOk (s : ByteArray) (hs : s.size ≤ maxLen) : FCon Tryz.prog 110 [.s (.string s)] (fun r _ => r = .s (.bool (conM s.data.toList))) := FCon.ofStr Tryz.func110 rfl rfl s _ fun w => (spec_ConOk w s hs).mono fun e w' ⟨q1, q2⟩ => ⟨q1, q2 ▸ Below.refl _ _⟩
theorem lit0 : (⟨#[]⟩ : ByteArray).toList = [] := by kernel_rfl
end Go.Proofs.YtgcdbmcoendcdaaGreat

namespace Go.Proofs.YtgcdbmcoendcdaaGreat
set_option linter.unusedVariables false
def fidx {α : Type} (p : α → Bool) : List α → Int
  | [] => -1
  | x :: l => if p x = true then 0 else if fidx p l < 0 then -1 else fidx p l + 1
theorem fidx_ge {α : Type} (p : α → Bool) : ∀ (l : List α), -1 ≤ fidx p l
  | [] => by simp [fidx]
  | x :: l => by
    have := fidx_ge p l
    rw [fidx]; split <;> (try split) <;> omega
theorem fidx_at {α : Type} (p : α → Bool) : ∀ (l : List α) (k : Nat) (h : k < l.length), (∀ x ∈ l.take k, p x = false) → p l[k] = true → fidx p l = k
  | x :: l, 0, _, _, hp => by
    have hp : p x = true := hp
    rw [fidx, if_pos hp]; rfl
  | x :: l, k + 1, h, hn, hp => by
    rw [fidx, if_neg (by rw [hn x (by simp)]; simp), fidx_at p l k (by simpa using h) (fun y hy => hn y (by simp [hy])) (by simpa using hp)]
    rw [if_neg (by omega)]; omega
theorem fidx_no {α : Type} (p : α → Bool) : ∀ (l : List α), (∀ x ∈ l, p x = false) → fidx p l = -1
  | [], _ => rfl
  | x :: l, h => by rw [fidx, if_neg (by rw [h x (by simp)]; simp), fidx_no p l (fun y hy => h y (by simp [hy]))]; rfl
theorem fidx_any {α : Type} (p : α → Bool) : ∀ (l : List α), decide (fidx p l ≥ 0) = l.any p
  | [] => rfl
  | x :: l => by
    rw [fidx, List.any_cons, ← fidx_any p l]
    by_cases h : p x = true
    · rw [if_pos h, h]; rfl
    · rw [if_neg h]
      have : p x = false := by simpa using h
      rw [this, Bool.false_or]
      have := fidx_ge p l
      by_cases q : fidx p l < 0
      · rw [if_pos q, decide_eq_false (by omega), decide_eq_false (by omega)]
      · rw [if_neg q, decide_eq_true (by omega), decide_eq_true (by omega)]
theorem take_no {α : Type} {p : α → Bool} {xs : List α} {k : Nat} (h : k < xs.length) (hno : ∀ x ∈ xs.take k, p x = false) (hk : p xs[k] = false) : ∀ x ∈ xs.take (k + 1), p x = false := by
  intro x hx
  rw [List.take_succ_eq_append_getElem h] at hx
  rcases List.mem_append.1 hx with hx | hx
  · exact hno x hx
  · simp at hx; rw [hx]; exact hk
end Go.Proofs.YtgcdbmcoendcdaaGreat

namespace Go.Proofs.YtgcdbmcoendcdaaGreat
set_option linter.unusedVariables false
set_option linter.unusedSimpArgs false
open Go.RowKit
def stE (p : ByteArray) : List D := [.s (.string p)]
theorem stE_eq (p : ByteArray) : stE p = [.s (.string p)] := rfl
theorem c_Index_str (xs : List ByteArray) (v : ByteArray) : FCon Tryz.prog 182 [.sl 1 (xs.map stE), .s (.string v)] (fun r _ => r = .s (.int .i64 (idxOf v xs))) := by
  refine FCon.intro PM _ Tryz.func182 (by kernel_rfl) rfl _ Tryz.ntmps182 rfl [] (by decide +kernel) (by simp) (by simp) rfl (by first | rfl | simp only [go_sem]) ?_
  refine AC_len 0 rfl trivial fun hlen => ?_
  simp only [List.length_map] at hlen
  (have hWf := f0; repeat' (first | refine zS ?_ | exact zE | with_reducible apply And.intro | with_reducible exact zB0 | with_reducible refine zB fun hb => ?_ | exact zC | refine zT ?_ | fail))
  refine AC_loop (fun n σ => ∃ k : Nat, k ≤ xs.length ∧ n = xs.length - k ∧ σ.t 0 = .sl 1 (xs.map stE) ∧ σ.t 1 = .s (.string v) ∧ σ.t 7 = .s (.int .i64 xs.length) ∧ σ.t 8 = .s (.int .i64 k) ∧ ∀ j, j < k → xs[j]? ≠ some v) xs.length ⟨0, by omega, by omega, ?_⟩ ?_
  · simp only [go_sem, simprocAttr, Int.natCast_zero]
    all_goals simp
  · rintro n σ ⟨k, hk, rfl, h0, h1, h7, h8, hno⟩ K' hK
    by_cases hlt : k < xs.length
    · have hx := getD_map stE xs k hlt
      have he := stE_eq xs[k]
      by_cases hp : v = xs[k]
      · have hp' := str_beq_true hp
        have hv := idxOf_at hlt hno (by rw [List.getElem?_eq_getElem hlt, ← hp])
        (have hWf := WFx.mk (ai @h0 <| ai @h1 <| ai @h7 <| ai @h8 <| ai @hx <| ai @he <| @hp'); repeat' (first | refine zS ?_ | exact zE | with_reducible apply And.intro | with_reducible exact zB0 | with_reducible refine zB fun hb => ?_ | exact zC | refine zT ?_ | fail))
        exact sI_congr hv.symm
      · have hp' := str_beq_false hp
        (have hWf := WFx.mk (ai @h0 <| ai @h1 <| ai @h7 <| ai @h8 <| ai @hx <| ai @he <| @hp'); repeat' (first | refine zS ?_ | exact zE | with_reducible apply And.intro | with_reducible exact zB0 | with_reducible refine zB fun hb => ?_ | exact zC | refine zT ?_ | fail))
        refine hK (xs.length - (k + 1)) _ (by omega) ⟨k + 1, by omega, rfl, ?_⟩
        simp only [go_sem, simprocAttr, h0, h1, h7, Int.natCast_succ]
        intro j hj
        rcases Nat.lt_or_eq_of_le (Nat.le_of_lt_succ hj) with q | q
        · exact hno j q
        · subst q; rw [List.getElem?_eq_getElem hlt]; exact fun e => hp (Option.some.inj e).symm
    · obtain rfl : k = xs.length := by omega
      (have hWf := WFx.mk (ai @h0 <| ai @h1 <| ai @h7 <| @h8); repeat' (first | refine zS ?_ | exact zE | with_reducible apply And.intro | with_reducible exact zB0 | with_reducible refine zB fun hb => ?_ | exact zC | refine zT ?_ | fail))
      exact sI_congr (idxOf_none hno).symm
theorem c_Contains_str (xs : List ByteArray) (v : ByteArray) : FCon Tryz.prog 103 [.sl 1 (xs.map stE), .s (.string v)] (fun r _ => r = .s (.bool (inL v xs))) := by
  refine FCon.intro PM _ Tryz.func103 (by kernel_rfl) rfl _ Tryz.ntmps103 rfl [] (by decide +kernel) (by simp) (by simp) rfl (by first | rfl | simp only [go_sem]) ?_
  (have hWf := f0; repeat' (first | refine zS ?_ | exact zE | with_reducible apply And.intro | refine zK (c_Index_str xs v) ?_ | with_reducible exact zB0 | with_reducible refine zB fun hb => ?_ | exact zC | refine zT ?_ | fail))
  exact sB (idxOf_mem v xs)
theorem stE_frz (xs : List ByteArray) : frzLL (xs.map stE) = xs.map stE := frz_rows (fun _ => rfl) xs
end Go.Proofs.YtgcdbmcoendcdaaGreat

namespace Go.Proofs.YtgcdbmcoendcdaaGreat
set_option linter.unusedVariables false
set_option linter.unusedSimpArgs false
open Go.RowKit
theorem toL_inj {a b : ByteArray} (h : a.toList = b.toList) : a = b := by
  rw [ByteArray.toList_eq, ByteArray.toList_eq] at h
  cases a; cases b
  simpa using h
theorem all_bad {α : Type} {p : α → Bool} {l : List α} {k : Nat} (h : k < l.length) (hp : p l[k] = false) : l.all p = false := by
  rw [List.all_eq_false]
  exact ⟨l[k], List.getElem_mem h, by rw [hp]; simp⟩
theorem all_good {α : Type} {p : α → Bool} {l : List α} (h : ∀ x ∈ l.take l.length, p x = true) : l.all p = true := List.all_eq_true.2 (by simpa using h)
theorem take_more {α : Type} {p : α → Prop} {l : List α} {k : Nat} (h : k < l.length) (h1 : ∀ x ∈ l.take k, p x) (h2 : p l[k]) : ∀ x ∈ l.take (k + 1), p x := by
  intro x hx
  rw [List.take_succ_eq_append_getElem h] at hx
  rcases List.mem_append.1 hx with hx | hx
  · exact h1 x hx
  · simp at hx; rw [hx]; exact h2
def primL : List (List UInt8) := [[43], [45], [42], [47], [37], [94], [61], [60, 62], [60], [60, 61]]
def primM (s : ByteArray) : Bool := primL.any fun l => s.toList == l
def primB : List ByteArray := primL.map fun l => ⟨l.toArray⟩
theorem primM_in (s : ByteArray) : inL s primB = primM s := by
  rw [Bool.eq_iff_iff, inL_iff]
  unfold primM primB
  simp only [List.mem_map, List.any_eq_true, beq_iff_eq]
  constructor
  · rintro ⟨l, hl, rfl⟩
    exact ⟨l, hl, by rw [ByteArray.toList_eq]⟩
  · rintro ⟨l, hl, e⟩
    exact ⟨l, hl, toL_inj (by rw [ByteArray.toList_eq, e])⟩
theorem c_primOps : FCon Tryz.prog 150 [] (fun r _ => r = .osl 9 1 (primB.map stE)) := by
  refine FCon.intro PM _ Tryz.func150 (by kernel_rfl) rfl _ Tryz.ntmps150 rfl [] (by decide +kernel) (by simp) (by simp) rfl (by first | rfl | simp only [go_sem]) ?_
  (have hWf := f0; repeat' (first | refine zS ?_ | exact zE | with_reducible apply And.intro | with_reducible exact zB0 | with_reducible refine zB fun hb => ?_ | exact zC | refine zT ?_ | fail))
  rfl
theorem c_prims (s : ByteArray) : FCon Tryz.prog 103 [.sl 1 (primB.map stE), .s (.string s)] (fun r _ => r = .s (.bool (primM s))) := by
  rw [← primM_in]; exact c_Contains_str primB s
theorem c_l04Prim (s : ByteArray) : FCon Tryz.prog 112 [.s (.string s)] (fun r _ => r = .s (.bool (primM s))) := by
  have hpm : primM s = primB.any fun x => s.toList == x.toList := by
    unfold primM primB
    rw [List.any_map]
    congr 1
    funext l
    show _ = (s.toList == (⟨l.toArray⟩ : ByteArray).toList)
    rw [ByteArray.toList_eq (bs := ⟨l.toArray⟩)]
  rw [hpm]
  have hpl : primB.length = 10 := rfl
  refine FCon.intro PM _ Tryz.func112 (by kernel_rfl) rfl _ Tryz.ntmps112 rfl [] (by decide +kernel) (by simp) (by simp) rfl (by first | rfl | simp only [go_sem]) ?_
  (have hWf := f0; repeat' (first | refine zS ?_ | exact zE | with_reducible apply And.intro | with_reducible exact zB0 | with_reducible refine zB fun hb => ?_ | exact zC | refine zT ?_ | fail))
  refine AC_loop (fun n σ => ∃ k : Nat, k ≤ primB.length ∧ n = primB.length - k ∧ σ.t 0 = .s (.string s) ∧ σ.t 5 = .bs 5 1 primB.length ∧ σ.b 5 = some (.arr 9 1 (primB.map stE)) ∧ σ.t 6 = .s (.int .i64 primB.length) ∧ σ.t 7 = .s (.int .i64 k) ∧ ∀ x ∈ primB.take k, (s.toList == x.toList) = false) primB.length ⟨0, by omega, by omega, ?_⟩ ?_
  · simp only [go_sem, simprocAttr]
    exact ⟨by rw [hpl], rfl, by rw [hpl]; rfl⟩
  · rintro n σ ⟨k, hk, rfl, h0, h5, hb5, h6, h7, hno⟩ K' hK
    by_cases hlt : k < primB.length
    · have hx := getD_map stE primB k hlt
      have he := stE_eq primB[k]
      cases hq : (s.toList == primB[k].toList) with
      | true =>
        (have hWf := WFx.mk (ai @h0 <| ai @h5 <| ai @hb5 <| ai @h6 <| ai @h7 <| ai @hx <| ai @he <| @hq); repeat' (first | refine zS ?_ | exact zE | with_reducible apply And.intro | with_reducible exact zB0 | with_reducible refine zB fun hb => ?_ | exact zC | refine zT ?_ | fail))
        exact sB (List.any_eq_true.2 ⟨primB[k], List.getElem_mem hlt, hq⟩).symm
      | false =>
        (have hWf := WFx.mk (ai @h0 <| ai @h5 <| ai @hb5 <| ai @h6 <| ai @h7 <| ai @hx <| ai @he <| @hq); repeat' (first | refine zS ?_ | exact zE | with_reducible apply And.intro | with_reducible exact zB0 | with_reducible refine zB fun hb => ?_ | exact zC | refine zT ?_ | fail))
        refine hK (primB.length - (k + 1)) _ (by omega) ⟨k + 1, by omega, rfl, ?_⟩
        simp only [go_sem, simprocAttr, h0, h5, hb5, h6, Int.natCast_succ]
        exact take_more hlt hno hq
    · obtain rfl : k = primB.length := by omega
      (have hWf := WFx.mk (ai @h0 <| ai @h5 <| ai @hb5 <| ai @h6 <| @h7); repeat' (first | refine zS ?_ | exact zE | with_reducible apply And.intro | with_reducible exact zB0 | with_reducible refine zB fun hb => ?_ | exact zC | refine zT ?_ | fail))
      exact sB (List.any_eq_false.2 (fun x hx => by have := hno x (by simpa using hx); rw [this]; simp)).symm
end Go.Proofs.YtgcdbmcoendcdaaGreat

namespace Go.Proofs.YtgcdbmcoendcdaaGreat
set_option linter.unusedVariables false
set_option linter.unusedSimpArgs false
open Go.RowKit
theorem lit3 : (⟨#[114, 101, 102]⟩ : ByteArray).toList = [114, 101, 102] := by kernel_rfl
theorem lit2 : (⟨#[45, 62]⟩ : ByteArray).toList = [45, 62] := by kernel_rfl
theorem lit1 : (⟨#[42]⟩ : ByteArray).toList = [42] := by kernel_rfl
theorem c_tyName (x : TyI) (hx : x.ok) (h0 : 0 ≤ x.ar) (h1 : x.ar ≤ 2) (h2 : x.v = 0) (h3 : x.name.toList.isEmpty = false) : FCon Tryz.prog 256 [.ag x.enc] (fun r _ => r = .s (.bool (itemM x))) := by
  refine FCon.intro PM _ Tryz.func256 (by kernel_rfl) rfl _ Tryz.ntmps256 rfl [] (by decide +kernel) (by simp) (by simp) rfl (by first | rfl | simp only [go_sem]) ?_
  (have hWf := WFx.mk (ai @TyI.enc_eq <| ai @lit1 <| ai @lit2 <| @lit3); repeat' (first | refine zS ?_ | exact zE | with_reducible apply And.intro | ((with_reducible apply q_CallG); refine zG (c_implNameOk _ hx.2.1) ?_) | ((with_reducible apply q_CallQ); refine CallQ_mk (c_implNameOk _ hx.2.1) ?_) | with_reducible exact zB0 | with_reducible refine zB fun hb => ?_ | exact zC | refine zT ?_ | fail))
  all_goals exact sB (by unfold itemM; simp_all)
theorem c_l04Item (x : TyI) (hx : x.ok) : FCon Tryz.prog 184 [.ag x.enc] (fun r _ => r = .s (.bool (itemM x))) := by
  refine FCon.intro PM _ Tryz.func184 (by kernel_rfl) rfl _ Tryz.ntmps184 rfl [] (by decide +kernel) (by simp) (by simp) rfl (by first | rfl | simp only [go_sem]) ?_
  (have hWf := WFx.mk (ai @TyI.enc_eq <| ai @lit0 <| ai @lit1 <| ai @lit2 <| @lit3); repeat' (first | refine zS ?_ | exact zE | with_reducible apply And.intro | ((with_reducible apply q_CallG); refine zG (c_specNameOk _ hx.2.1) ?_) | ((with_reducible apply q_CallQ); refine CallQ_mk (c_specNameOk _ hx.2.1) ?_) | with_reducible exact zB0 | with_reducible refine zB fun hb => ?_ | exact zC | refine zT ?_ | fail))
  all_goals exact sB (by unfold itemM; simp_all; try omega)
theorem decLe {a b : Nat} : decide ((a : Int) ≤ (b : Int)) = decide (a ≤ b) := by rw [Bool.eq_iff_iff]; simp
theorem decLe200 {a : Nat} : decide ((a : Int) ≤ 200) = decide (a ≤ 200) := decLe (b := 200)
theorem beq_nil_false {l : List UInt8} (h : l.isEmpty = false) : (l == []) = false := by cases l <;> simp_all
theorem c_tyOk (xs : List TyI) (ho : ∀ x ∈ xs, x.ok) (hl : xs.length ≤ 1048576) : FCon Tryz.prog 235 [.sl 3 (xs.map TyI.enc)] (fun r _ => r = .s (.bool (tyItemsM xs))) := by
  refine FCon.intro PM _ Tryz.func235 (by kernel_rfl) rfl _ Tryz.ntmps235 rfl [] (by decide +kernel) (by simp) (by simp) rfl (by first | rfl | simp only [go_sem]) ?_
  (have hWf := f0; repeat' (first | refine zS ?_ | exact zE | with_reducible apply And.intro | with_reducible exact zB0 | with_reducible refine zB fun hb => ?_ | exact zC | refine zT ?_ | fail))
  refine AC_loop (fun n σ => ∃ k m : Nat, k ≤ xs.length ∧ n = xs.length - k ∧ σ.t 3 = .s (.int .i64 m) ∧ σ.t 6 = .sl 3 (xs.map TyI.enc) ∧ σ.t 7 = .s (.int .i64 xs.length) ∧ σ.t 8 = .s (.int .i64 k) ∧ m ≤ 1 + 2 * k ∧ restM xs k m = tyItemsM xs) xs.length ⟨0, 1, by omega, by omega, ?_⟩ ?_
  · simp only [go_sem, simprocAttr, Int.natCast_zero, Int.natCast_one, restM_start]

  · rintro n σ ⟨k, m, hk, rfl, h3, h6, h7, h8, hm, hr⟩ K' hK
    by_cases hlt : k < xs.length
    · have hx := getD_map TyI.enc xs k hlt
      have he := TyI.enc_eq xs[k]
      have hox := ho _ (List.getElem_mem hlt)
      rcases Nat.eq_zero_or_pos m with rfl | hm0
      · (have hWf := WFx.mk (ai @h3 <| ai @h6 <| ai @h7 <| ai @h8 <| ai @hx <| ai @he <| @Int.natCast_zero); repeat' (first | refine zS ?_ | exact zE | with_reducible apply And.intro | with_reducible exact zB0 | with_reducible refine zB fun hb => ?_ | exact zC | refine zT ?_ | fail))
        exact sB (by rw [← hr, restM_zero xs k hlt])
      · obtain ⟨m, rfl⟩ : ∃ j, m = j + 1 := ⟨m - 1, by omega⟩
        have hm1 : (((m + 1 : Nat) : Int) == 0) = false := by simp; omega
        have hbad : itemM xs[k] = false → false = tyItemsM xs := fun h => by rw [← hr, restM_bad xs k _ hlt h]
        have hgood : itemM xs[k] = true → restM xs (k + 1) (m + xs[k].ar.toNat) = tyItemsM xs := fun h => by rw [← hr, restM_step xs k m hlt h]
        clear hr
        by_cases hn : xs[k].name.toList.isEmpty
        · have hI : itemM xs[k] = (decide (0 ≤ xs[k].v) && decide (xs[k].v ≤ 9999) && (xs[k].ar == 0)) := by unfold itemM; rw [if_pos hn]
          have hn' : xs[k].name.toList = [] := by simpa using hn
          (have hWf := WFx.mk (ai @h3 <| ai @h6 <| ai @h7 <| ai @h8 <| ai @hx <| ai @he <| ai @hm1 <| ai @lit0 <| @hn'); repeat' (first | refine zS ?_ | exact zE | with_reducible apply And.intro | refine zK (c_within xs[k].v 0 9999) ?_ | with_reducible exact zB0 | with_reducible refine zB fun hb => ?_ | exact zC | refine zT ?_ | fail))
          · exact sB (hbad (by rw [hI]; simp at hb ⊢; omega))
          · have hit : itemM xs[k] = true := by rw [hI]; simp at hb ⊢; omega
            have ha : xs[k].ar = 0 := by rw [hI] at hit; simp at hit; omega
            refine hK (xs.length - (k + 1)) _ (by omega) ⟨k + 1, m, by omega, rfl, ?_⟩
            simp only [go_sem, simprocAttr, h3, h6, h7, h8, Int.natCast_succ]
            exact ⟨sI_congr (by omega), by omega, by simpa [ha] using hgood hit⟩
        · have hn' : xs[k].name.toList.isEmpty = false := by simpa using hn
          have hn2 := beq_nil_false hn'
          by_cases hv : xs[k].v = 0
          · have hv' : (xs[k].v != 0) = false := by simp [hv]
            by_cases ha : 0 ≤ xs[k].ar ∧ xs[k].ar ≤ 2
            · have ha1 : decide (0 ≤ xs[k].ar) = true := decide_eq_true ha.1
              have ha2 : decide (xs[k].ar ≤ 2) = true := decide_eq_true ha.2
              (have hWf := WFx.mk (ai @h3 <| ai @h6 <| ai @h7 <| ai @h8 <| ai @hx <| ai @he <| ai @hm1 <| ai @lit0 <| ai @hn2 <| ai @hv' <| ai @ha1 <| @ha2); repeat' (first | refine zS ?_ | exact zE | with_reducible apply And.intro | refine zK (c_within xs[k].ar 0 2) ?_ | refine zK (c_tyName xs[k] hox ha.1 ha.2 hv hn') ?_ | with_reducible exact zB0 | with_reducible refine zB fun hb => ?_ | exact zC | refine zT ?_ | fail))
              · exact sB (hbad (by simpa using hb))
              · refine hK (xs.length - (k + 1)) _ (by omega) ⟨k + 1, m + xs[k].ar.toNat, by omega, rfl, ?_⟩
                simp only [go_sem, simprocAttr, h3, h6, h7, h8, Int.natCast_succ]
                exact ⟨sI_congr (by push_cast; omega), by omega, hgood (by simpa using hb)⟩
            · have ha' : (decide (0 ≤ xs[k].ar) && decide (xs[k].ar ≤ 2)) = false := by simp; omega
              (have hWf := WFx.mk (ai @h3 <| ai @h6 <| ai @h7 <| ai @h8 <| ai @hx <| ai @he <| ai @hm1 <| ai @lit0 <| ai @hn2 <| ai @hv' <| @ha'); repeat' (first | refine zS ?_ | exact zE | with_reducible apply And.intro | refine zK (c_within xs[k].ar 0 2) ?_ | with_reducible exact zB0 | with_reducible refine zB fun hb => ?_ | exact zC | refine zT ?_ | fail))
              all_goals exact sB (hbad (by cases hI : itemM xs[k] with | false => rfl | true => exact absurd (itemM_ar hI) ha))
          · have hv' : (xs[k].v != 0) = true := by simp [hv]
            (have hWf := WFx.mk (ai @h3 <| ai @h6 <| ai @h7 <| ai @h8 <| ai @hx <| ai @he <| ai @hm1 <| ai @lit0 <| ai @hn2 <| @hv'); repeat' (first | refine zS ?_ | exact zE | with_reducible apply And.intro | refine zK (c_within xs[k].ar 0 2) ?_ | with_reducible exact zB0 | with_reducible refine zB fun hb => ?_ | exact zC | refine zT ?_ | fail))
            all_goals exact sB (hbad (by unfold itemM; simp [hn', hv]))
    · obtain rfl : k = xs.length := by omega
      (have hWf := WFx.mk (ai @h3 <| ai @h6 <| ai @h7 <| @h8); repeat' (first | refine zS ?_ | exact zE | with_reducible apply And.intro | with_reducible exact zB0 | with_reducible refine zB fun hb => ?_ | exact zC | refine zT ?_ | fail))
      refine sB ?_
      rw [← hr, restM_end xs _ m rfl, Bool.eq_iff_iff, beq_iff_eq, decide_eq_true_eq]
      omega
theorem c_implTyOk (xs : List TyI) (ho : ∀ x ∈ xs, x.ok) (hl : xs.length ≤ 1048576) : FCon Tryz.prog 180 [.ag [.sl 3 (xs.map TyI.enc)]] (fun r _ => r = .s (.bool (tyOkM xs))) := by
  refine FCon.intro PM _ Tryz.func180 (by kernel_rfl) rfl _ Tryz.ntmps180 rfl [] (by decide +kernel) (by simp) (by simp) rfl (by first | rfl | simp only [go_sem]) ?_
  (have hWf := f0; repeat' (first | refine zS ?_ | exact zE | with_reducible apply And.intro | refine zK (c_tyOk xs ho hl) ?_ | with_reducible exact zB0 | with_reducible refine zB fun hb => ?_ | exact zC | refine zT ?_ | fail))
  all_goals exact sB (by unfold tyOkM; rw [decLe200])
theorem items_ar {xs : List TyI} (h : xs.all itemM = true) : ∀ x ∈ xs, 0 ≤ x.ar ∧ x.ar ≤ 2 := fun x hx => itemM_ar (List.all_eq_true.1 h x hx)
theorem c_l04End : ∀ (n : Nat) (xs : List TyI) (hit : ∀ x ∈ xs, 0 ≤ x.ar ∧ x.ar ≤ 2) (hl : xs.length ≤ 1048576) (k : Nat), xs.length - k ≤ n → FCon Tryz.prog 185 [.ag [.sl 3 (xs.map TyI.enc)], .s (.int .i64 k)] (fun r _ => r = .s (.int .i64 (endM xs k)))
  | n, xs, hit, hl, k, hn => by
    by_cases hk : k < xs.length
    · have hx := getD_map TyI.enc xs k hk
      have he := TyI.enc_eq xs[k]
      have hxi := hit _ (List.getElem_mem hk)
      have hb0 : decide ((k : Int) < 0) = false := by simp
      have hb1 : decide ((k : Int) ≥ xs.length) = false := by simp; omega
      obtain ⟨n, rfl⟩ : ∃ j, n = j + 1 := ⟨n - 1, by omega⟩
      have ih := c_l04End n xs hit hl
      refine FCon.intro PM _ Tryz.func185 (by kernel_rfl) rfl _ Tryz.ntmps185 rfl [] (by decide +kernel) (by simp) (by simp) rfl (by first | rfl | simp only [go_sem]) ?_
      (have hWf := WFx.mk (ai @hb0 <| @hb1); repeat' (first | refine zS ?_ | exact zE | with_reducible apply And.intro | with_reducible exact zB0 | with_reducible refine zB fun hb => ?_ | exact zC | refine zT ?_ | fail))
      refine AC_loop (fun n' σ => ∃ i : Nat, (i : Int) ≤ xs[k].ar ∧ n' = xs[k].ar.toNat - i ∧ σ.t 1 = .s (.int .i64 k) ∧ σ.t 2 = .bx 2 0 ∧ σ.b 2 = some (.box [.sl 3 (xs.map TyI.enc)]) ∧ σ.t 5 = .s (.int .i64 (endsM xs (k + 1) i)) ∧ σ.t 6 = .s (.int .i64 i)) xs[k].ar.toNat ⟨0, by omega, by omega, ?_⟩ ?_
      · simp only [go_sem, simprocAttr, Int.natCast_zero, endsM_zero, Int.natCast_succ]
      · rintro n' σ ⟨i, hi, rfl, h1, h2, h9, h5, h6⟩ K' hK
        have hbd := endsM_bd xs (k + 1) i (by omega)
        by_cases hlt : (i : Int) < xs[k].ar
        · rcases hbd with hneg | ⟨m, hm, hm1, hm2⟩
          · rw [hneg] at h5
            (have hWf := WFx.mk (ai @h1 <| ai @h2 <| ai @h9 <| ai @h5 <| ai @h6 <| ai @hx <| @he); repeat' (first | refine zS ?_ | exact zE | with_reducible apply And.intro | with_reducible exact zB0 | with_reducible refine zB fun hb => ?_ | exact zC | refine zT ?_ | fail))
            exact sI_congr (by rw [endM_step xs k hk, endsM_neg xs (k + 1) i (by omega) _ (by omega)])
          · rw [hm] at h5
            have hsc := endsM_succ xs (k + 1) i m hm
            (have hWf := WFx.mk (ai @h1 <| ai @h2 <| ai @h9 <| ai @h5 <| ai @h6 <| ai @hx <| @he); repeat' (first | refine zS ?_ | exact zE | with_reducible apply And.intro | ((with_reducible apply q_CallG); refine zG (ih m (by omega)) ?_) | ((with_reducible apply q_CallQ); refine CallQ_mk (ih m (by omega)) ?_) | with_reducible exact zB0 | with_reducible refine zB fun hb => ?_ | exact zC | refine zT ?_ | fail))
            refine hK (xs[k].ar.toNat - (i + 1)) _ (by omega) ⟨i + 1, by omega, rfl, ?_⟩
            simp only [go_sem, simprocAttr, h1, h2, h9, h5, h6, Int.natCast_succ, hsc]
        · (have hWf := WFx.mk (ai @h1 <| ai @h2 <| ai @h9 <| ai @h5 <| ai @h6 <| ai @hx <| @he); repeat' (first | refine zS ?_ | exact zE | with_reducible apply And.intro | with_reducible exact zB0 | with_reducible refine zB fun hb => ?_ | exact zC | refine zT ?_ | fail))
          exact sI_congr (by rw [endM_step xs k hk]; congr 1; omega)
    · refine FCon.intro PM _ Tryz.func185 (by kernel_rfl) rfl _ Tryz.ntmps185 rfl [] (by decide +kernel) (by simp) (by simp) rfl (by first | rfl | simp only [go_sem]) ?_
      (have hWf := f0; repeat' (first | refine zS ?_ | exact zE | with_reducible apply And.intro | with_reducible exact zB0 | with_reducible refine zB fun hb => ?_ | exact zC | refine zT ?_ | fail))
      exact sI_congr (endM_end xs k (by omega)).symm
theorem all_false {xs : List TyI} {k : Nat} (h : k < xs.length) (hb : itemM xs[k] = false) : tyOkM xs = false := by
  unfold tyOkM tyItemsM
  have : xs.all itemM = false := List.all_eq_false.2 ⟨xs[k], List.getElem_mem h, by simp [hb]⟩
  rw [this]; simp
theorem all_take_succ {xs : List TyI} {k : Nat} (h : k < xs.length) (ha : (xs.take k).all itemM = true) (hb : itemM xs[k] = true) : (xs.take (k + 1)).all itemM = true := by
  rw [List.take_succ_eq_append_getElem h, List.all_append, ha, List.all_cons, hb]; rfl
theorem c_specTyOk (xs : List TyI) (ho : ∀ x ∈ xs, x.ok) (hl : xs.length ≤ 1048576) : FCon Tryz.prog 111 [.ag [.sl 3 (xs.map TyI.enc)]] (fun r _ => r = .s (.bool (tyOkM xs))) := by
  by_cases h2 : xs.length ≤ 200
  · have h2' : tyOkM xs = tyItemsM xs := by unfold tyOkM; rw [decide_eq_true h2]; rfl
    refine FCon.intro PM _ Tryz.func111 (by kernel_rfl) rfl _ Tryz.ntmps111 rfl [(9, 5, [], [], (lin [] [0, 1, 2, 3, 4]))] (by decide +kernel) (by simp) (by simp) rfl (by first | rfl | simp only [go_sem]) ?_
    (have hWf := f0; repeat' (first | refine zS ?_ | exact zE | with_reducible apply And.intro | with_reducible exact zB0 | with_reducible refine zB fun hb => ?_ | exact zC | refine zT ?_ | fail))
    refine AC_loop (fun n σ => ∃ k : Nat, k ≤ xs.length ∧ n = xs.length - k ∧ σ.t 1 = .bx 1 0 ∧ σ.b 1 = some (.box [.sl 3 (xs.map TyI.enc)]) ∧ σ.t 10 = .sl 3 (xs.map TyI.enc) ∧ σ.t 11 = .s (.int .i64 xs.length) ∧ σ.t 12 = .s (.int .i64 k) ∧ (xs.take k).all itemM = true) xs.length ⟨0, by omega, by omega, ?_⟩ ?_
    · simp only [go_sem, simprocAttr, Int.natCast_zero, List.take_zero, List.all_nil]
    · rintro n σ ⟨k, hk, rfl, h1, h9, h10, h11, h12, ha⟩ K' hK
      by_cases hlt : k < xs.length
      · have hx := getD_map TyI.enc xs k hlt
        have he := TyI.enc_eq xs[k]
        (have hWf := WFx.mk (ai @h1 <| ai @h9 <| ai @h10 <| ai @h11 <| ai @h12 <| ai @hx <| @he); repeat' (first | refine zS ?_ | exact zE | with_reducible apply And.intro | ((with_reducible apply q_CallG); refine zG (c_l04Item xs[k] (ho _ (List.getElem_mem hlt))) ?_) | ((with_reducible apply q_CallQ); refine CallQ_mk (c_l04Item xs[k] (ho _ (List.getElem_mem hlt))) ?_) | with_reducible exact zB0 | with_reducible refine zB fun hb => ?_ | exact zC | refine zT ?_ | fail))
        · exact sB (all_false hlt hb).symm
        · refine hK (xs.length - (k + 1)) _ (by omega) ⟨k + 1, by omega, rfl, ?_⟩
          simp only [go_sem, simprocAttr, h1, h9, h10, h11, h12, Int.natCast_succ]
          exact all_take_succ hlt ha hb
      · obtain rfl : k = xs.length := by omega
        rw [List.take_length] at ha
        (have hWf := WFx.mk (ai @h1 <| ai @h9 <| ai @h10 <| ai @h11 <| @h12); repeat' (first | refine zS ?_ | exact zE | with_reducible apply And.intro | ((with_reducible apply q_CallG); refine zG (c_l04End xs.length xs (items_ar ha) hl 0 (by omega)) ?_) | ((with_reducible apply q_CallQ); refine CallQ_mk (c_l04End xs.length xs (items_ar ha) hl 0 (by omega)) ?_) | with_reducible exact zB0 | with_reducible refine zB fun hb => ?_ | exact zC | refine zT ?_ | fail))
        refine sB ?_
        rw [h2', tyItemsM, ha, Bool.true_and, Bool.eq_iff_iff]
        simp
  · refine FCon.intro PM _ Tryz.func111 (by kernel_rfl) rfl _ Tryz.ntmps111 rfl [(9, 5, [], [], (lin [] [0, 1, 2, 3, 4]))] (by decide +kernel) (by simp) (by simp) rfl (by first | rfl | simp only [go_sem]) ?_
    (have hWf := f0; repeat' (first | refine zS ?_ | exact zE | with_reducible apply And.intro | with_reducible exact zB0 | with_reducible refine zB fun hb => ?_ | exact zC | refine zT ?_ | fail))
    exact sB (by unfold tyOkM; rw [decide_eq_false h2]; rfl)
end Go.Proofs.YtgcdbmcoendcdaaGreat

